/-
  The contracts of the specification's Shl, Shr, Bit, Int. Condition: numbers of at most 2^33 bits.
-/
import Derived.Test.YtppbhjhbaknidaaRefE
import Derived.Test.YtppbhjhbaknidaaShift
import Derived.Test.YtppbhjhbaknidaaRsh
import Derived.Deep.RegionHeld3
import Derived.Deep.AppendLies
set_option linter.unusedVariables false
set_option linter.unusedSimpArgs false
namespace Go.Proofs.Ytppbhjhbaknidaa
open Go.RowKit

theorem Own.row {w : World} {K : IntKind} {E : TypeId} {g : Nat} {xs : List Nat} (h : Own w K E g xs) {n B : Nat} (hn : xs.length = n) (hB : B ≤ g) (hm : n ≤ 1099511627776) :
    Row w B K E (.slice (some ⟨g, 0, none⟩) n n) xs := by
  subst hn
  refine ⟨by simp [intsOf], .inr ⟨g, xs.length, cellsOf K xs, rfl, hB, h, Nat.le_refl _, by unfold maxLen; omega, by simp [cellsOf], ?_⟩⟩
  have e : (cellsOf K xs).toList = intsOf K xs := by simp [cellsOf, intsOf]
  rw [e, List.take_of_length_le (by simp [intsOf])]

/-- 'append(xs, d)' to a row of the call's own, at a step of a region that draws. -/
theorem step_append_row {P : Program} {w : World} {ops : Array Oper} {o : Oper} {a : Act} {K' : Act → World → Prop} {Q : Exit → Act → World → Prop} {E' : Prop} (hgd : o.guard = none) (s x : Operand) (t : TypeId)
    (ho : o.op = .call { callee := .builtin .append, args := #[s, x], argTypes := #[t, t] })
    (B : Nat) (E : TypeId) (K : IntKind) (bytes : Nat) (h1 : P.underlying t = some (.slice E)) (h2 : (P.info? E).map (fun i => (i.zero, i.size, i.bytes)) = some (some (.int K 0), 1, bytes)) (hb : bytes ≤ 8)
    (v : Value) (xs : List Nat) (H d : Nat) (hs : a.eval s = v) (hrow : Row w B K E v xs) (hx : a.eval x = .slice (some ⟨H, 0, none⟩) 1 1) (hnew : w.cell? ⟨H, 0, none⟩ = some (.int K d))
    (hn : xs.length < 1099511627776) (hB : B ≤ w.heap.size)
    (h : ∀ v' w', Row w' B K E v' (xs ++ [d]) → Below B w w' → K' (a.put o.dst v') w') :
    if Region.wanted o (yielded ops a.tmps) = true then Oper.wp P o a w K' Q else E' := by
  obtain ⟨i, hi, hz0, hz1, hz2⟩ := info_parts h2
  have hb' : (xs.length + 1) * bytes ≤ (xs.length + 1) * 8 := Nat.mul_le_mul_left _ hb
  refine step_append_lies w hgd s x t ho B E i (.int K 0) 1 bytes h1 hi hz0 hz1 hz2 rfl (by decide) v xs.length (intsOf K xs) hs hrow ⟨H, 0, none⟩ 1 1 [.int K d] hx rfl ?_ ?_ (by decide) ?_ (by omega) hB w.heap.size rfl ?_
  · intro j u hj
    match j, hj with
    | 0, hj => simp at hj; subst hj; simpa [Addr.add] using hnew
  · intro u hu; simp at hu; subst hu; rfl
  · unfold maxLen; omega
  · intro g cap w' hown hgrow _ _
    refine h _ w' ?_ ?_
    · simpa [Row, intsOf] using hown
    · exact (Below.refl _ _).grown hgrow hB (fun k hk => (hrow.lt k hk).1)

structure ShlInv (xs ds : List Nat) (q i c : Nat) : Prop where
  len : ds.length = i
  dg : Dg 65536 ds
  eq : val 65536 ds + 65536 ^ i * c = val 65536 (xs.take i) * q
  car : c < q

theorem ShlInv.zero (xs : List Nat) {q : Nat} (hq : 0 < q) : ShlInv xs [] q 0 0 := ⟨rfl, Dg.nil _, by simp [val], hq⟩

theorem ShlInv.step {xs ds : List Nat} {q i c : Nat} (h : ShlInv xs ds q i c) (ha : Dg 65536 xs) :
    ShlInv xs (ds ++ [(c + nth xs i * q) % 65536]) q (i + 1) ((c + nth xs i * q) / 65536) := by
  have h1 := ha.nth (by omega) i
  have h2 := h.car
  have h3 : nth xs i * q ≤ 65535 * q := Nat.mul_le_mul_right _ (by omega)
  refine ⟨by simp [h.len], h.dg.snoc (Nat.mod_lt _ (by omega)), ?_, by omega⟩
  rw [val_snoc, val_take_succ, Nat.pow_succ, Nat.mul_assoc, Nat.add_assoc, h.len, ← Nat.mul_add, Nat.mod_add_div, Nat.mul_add, ← Nat.add_assoc, h.eq, Nat.add_mul, Nat.mul_assoc]

theorem ShlInv.done {xs ds : List Nat} {q i c : Nat} (h : ShlInv xs ds q i c) (hq : q ≤ 32768) (hi : xs.length ≤ i) (k : Nat) :
    Dg 65536 ((List.replicate k 0 ++ ds) ++ [c]) ∧ val 65536 ((List.replicate k 0 ++ ds) ++ [c]) = val 65536 xs * (65536 ^ k * q) := by
  have h2 := h.car
  refine ⟨((Dg.zeros (by omega) k).append h.dg).snoc (by omega), ?_⟩
  rw [List.append_assoc, val_append, val_zeros, Nat.zero_add, List.length_replicate, val_snoc, h.len, h.eq, val_take_ge _ hi, Nat.mul_left_comm]

theorem P2_split (n : Nat) : 65536 ^ (n / 16) * 2 ^ (n % 16) = P2 n := by
  rw [P2_16]; unfold P2
  rw [← Nat.pow_add]; congr 1; omega
theorem pow_small {s : Nat} (h : s < 16) : 1 ≤ 2 ^ s ∧ 2 ^ s ≤ 32768 := by
  refine ⟨Nat.one_le_two_pow, ?_⟩
  have : 2 ^ s ≤ 2 ^ 15 := Nat.pow_le_pow_right (by omega) (by omega)
  omega
theorem mul_bdS {x q : Nat} (hx : x < 65536) (hq : q ≤ 32768) : (x : Int) * (q : Int) ≤ 2147450880 ∧ 0 ≤ (x : Int) * (q : Int) := by
  have h : x * q ≤ 65535 * 32768 := Nat.mul_le_mul (by omega) hq
  rw [← Int.natCast_mul]
  omega

set_option maxHeartbeats 1000000 in
theorem shlR_any {w : World} {v : Value} {m : Nat} (ha : IsR w v m) (n : Nat) (hn : n ≤ 1073741824) (L : Nat) (hL : L ≤ 8589934592) (hm : m < P2 L) :
    Calls Try.prog 75 #[v, .int .i64 n] w (RetR w (m * P2 n)) := by
  obtain ⟨xs, ha, hca, rfl⟩ := ha
  have l1 := hca.len_R hm
  obtain ⟨ao, N, cap, b, off, rfl, hs⟩ := ha
  rw [hs.len] at l1
  have hN : N ≤ 600000000 := by omega
  have E1 := Lib.hid hs.len
  have hq := pow_small (show n % 16 < 16 by omega)
  have HP := Lib.hid (P2_split n)
  have hk : ((n : Int) / 16) = ((n / 16 : Nat) : Int) := rfl
  have hs16 : ((n : Int) % 16) = ((n % 16 : Nat) : Int) := rfl
  have HW := Lib.hid (fun w0 => power_any (n % 16) (by omega) w0)
  generalize hqq : 2 ^ (n % 16) = q at *
  have hkb : n / 16 ≤ 67108864 := by omega
  generalize n / 16 = k at *
  generalize n % 16 = s at *
  obtain ⟨hq1, hq2⟩ := hq
  clear hm hqq
  go_enter Try.func75, Try.ntmps75
  go_wp2_with (first | (at_make; refine wpList_make_nums _ rfl _ _ 29 rfl 3 .i64 8 Try.underlying29 (by kernel_rfl) .i64 .i64 _ _ k rfl rfl rfl rfl (by omega) (by omega) ?_; intro w1 hown hbel) | fail)
  refine (HW.out _).mono ?_
  rintro e wq ⟨rfl, hw⟩
  subst hw
  have hrow0 := hown.row (n := k) (by simp) (Nat.le_refl _) (by omega)
  clear hk hs16
  go_wp2
  go_loopw [5, 6, 8] (fun o c i wr => ∃ (j cc : Nat) (ds : List Nat), i = .int .i64 j ∧ c = .int .i64 cc ∧ j ≤ N ∧ ShlInv xs ds q j cc ∧ Row wr w.heap.size .i64 3 o (List.replicate k 0 ++ ds) ∧ Below w.heap.size w wr) (fun _ _ i _ => N - (intOf i).toNat)
  case atStart => exact ⟨0, 0, [], rfl, rfl, Nat.zero_le _, ShlInv.zero xs (by omega), by rw [List.append_nil]; exact hrow0, hbel⟩
  case round =>
    obtain ⟨j, cc, ds, rfl, rfl, hj, hinv, hrow, hb⟩ := hrel
    have hsz := hb.size
    have hcar := hinv.car
    have hzl : (List.replicate k 0 ++ ds).length < 1099511627776 := by rw [List.length_append, List.length_replicate, hinv.len]; omega
    clear hown hrow0 hbel
    by_cases hlt : j < N
    · obtain rfl := hs.addr.resolve_right (by omega)
      have hc1 : wr.cell? ⟨b, off + j, none⟩ = some (.int .i64 (nth xs j)) := by
        rw [hb.cell (p := ⟨b, off + j, none⟩) (hs.lt (by omega))]; exact hs.cells j hlt
      have hx := hca.1.nth (by omega) j
      have HI := Lib.hid (hinv.step hca.1)
      generalize nth xs j = x at *
      obtain ⟨p1, p2⟩ := mul_bdS hx hq2
      have HZ := Lib.hid hzl
      clear hzl
      go_wp2_with (at_builtin; go_loud (refine wpList_append_row _ rfl _ _ 29 rfl w.heap.size 3 .i64 8 Try.underlying29 (by kernel_rfl) (by omega) _ (List.replicate k 0 ++ ds) _ ((cc + x * q) % 65536) (by rfl) hrow (by rfl) (by rw [Int.natCast_emod, Int.natCast_add, Int.natCast_mul]; rfl) HZ.out hsz ?_; intro v' w' hrow' hbel' _))
      go_roundw
      case rel => exact ⟨j + 1, (cc + x * q) / 65536, _, by go_num, by rw [Int.natCast_ediv, Int.natCast_add, Int.natCast_mul]; rfl, by omega, HI.out, by rw [← List.append_assoc]; exact hrow', hb.trans hbel'⟩
      case measure => simp [intOf]; omega
    · have HF := Lib.hid (hinv.done hq2 (by rw [E1.out]; omega) k)
      have HZ := Lib.hid hzl
      clear hzl
      go_wp2_with (at_builtin; go_loud (refine wpList_append_row _ rfl _ _ 29 rfl w.heap.size 3 .i64 8 Try.underlying29 (by kernel_rfl) (by omega) _ (List.replicate k 0 ++ ds) _ cc (by rfl) hrow (by rfl) (by rfl) HZ.out hsz ?_; intro v' w' hrow' hbel' _))
      refine (trim_any _ _ _ (hrow'.sl (by rw [List.length_append]; have := HZ.out; simp at this ⊢; omega) HF.out.1.wf16)).mono ?_
      intro e w2 hr
      obtain ⟨v, rfl, hv, hb3⟩ := hr.numR HF.out.1 HF.out.2 (hb.trans hbel')
      go_wp2
      go_ret
      exact ⟨_, rfl, by rw [HP.out] at hv; exact hv, hb3⟩

structure ShrInv (ys zs : List Nat) (q i : Nat) : Prop where
  len : zs.length = i
  dg : Dg 65536 zs
  eq : val 65536 zs + 65536 ^ i * (val 65536 (ys.drop i) / q) = val 65536 ys / q

theorem ShrInv.zero (ys : List Nat) (q : Nat) : ShrInv ys [] q 0 := ⟨rfl, Dg.nil _, by simp [val]⟩

theorem nth_drop_mod {ys : List Nat} (hy : Dg 65536 ys) (i : Nat) : nth ys i = val 65536 (ys.drop i) % 65536 := by
  by_cases h : i < ys.length
  · rw [val_drop_cons _ h]
    have := hy.nth (by omega) i
    omega
  · rw [nth_ge (by omega), List.drop_of_length_le (by omega)]; rfl

theorem shr_digit {q r y V : Nat} (hqr : q * r = 65536) (hy : y < 65536) :
    (y + 65536 * V) / q = y / q + V % 65536 % q * r + 65536 * (V / q) ∧ y / q + V % 65536 % q * r < 65536 := by
  have hq : 0 < q := Nat.pos_of_ne_zero fun h => by subst h; simp at hqr
  have e1 : V % 65536 % q = V % q := Nat.mod_mod_of_dvd V ⟨r, hqr.symm⟩
  have e2 : (y + 65536 * V) / q = y / q + r * V := by
    rw [← hqr, Nat.mul_assoc, Nat.add_mul_div_left _ _ hq]
  have e3 := Nat.div_add_mod V q
  rw [e1, e2]
  have h1 : y / q < r := by rw [Nat.div_lt_iff_lt_mul hq, Nat.mul_comm]; omega
  have h2 := Nat.mod_lt V hq
  generalize V % q = t at *
  generalize V / q = u at *
  refine ⟨?_, ?_⟩
  · rw [← e3, ← hqr, Nat.mul_add, Nat.mul_comm t r, Nat.mul_left_comm r q u, ← Nat.mul_assoc q r u]
    omega
  · have h3 : (t + 1) * r ≤ q * r := Nat.mul_le_mul_right _ h2
    rw [Nat.add_mul, Nat.one_mul] at h3
    omega

theorem ShrInv.step {ys zs : List Nat} {q r i : Nat} (h : ShrInv ys zs q i) (hy : Dg 65536 ys) (hqr : q * r = 65536) (hi : i < ys.length) :
    ShrInv ys (zs ++ [nth ys i / q + nth ys (i + 1) % q * r]) q (i + 1) := by
  have h0 := hy.nth (by omega) i
  have ⟨d1, d2⟩ := shr_digit (V := val 65536 (ys.drop (i + 1))) hqr h0
  rw [← nth_drop_mod hy] at d1 d2
  refine ⟨by simp [h.len], h.dg.snoc d2, ?_⟩
  rw [← h.eq, val_drop_cons _ hi, d1, val_snoc, h.len, Nat.pow_succ, Nat.mul_assoc]
  generalize nth ys i / q + nth ys (i + 1) % q * r = D
  rw [Nat.mul_add (65536 ^ i) D]
  omega

theorem ShrInv.done {ys zs : List Nat} {q i : Nat} (h : ShrInv ys zs q i) (hi : ys.length ≤ i) : val 65536 zs = val 65536 ys / q := by
  rw [← h.eq, List.drop_of_length_le hi]; simp [val]

theorem val_drop_divR {xs : List Nat} (h : Dg 65536 xs) (k : Nat) : val 65536 (xs.drop k) = val 65536 xs / 65536 ^ k := by
  by_cases hk : k ≤ xs.length
  · have e := val_take_drop 65536 xs k hk
    have h1 := val_lt (h.take k)
    rw [List.length_take, Nat.min_eq_left hk] at h1
    rw [e, Nat.add_mul_div_left _ _ (Nat.pow_pos (by omega)), Nat.div_eq_of_lt h1, Nat.zero_add]
  · rw [List.drop_of_length_le (by omega)]
    have h1 := val_lt h
    have h2 : 65536 ^ xs.length ≤ 65536 ^ k := Nat.pow_le_pow_right (by omega) (by omega)
    rw [Nat.div_eq_of_lt (by omega)]; rfl

theorem div_P2 (m n : Nat) : m / 65536 ^ (n / 16) / 2 ^ (n % 16) = m / P2 n := by
  rw [Nat.div_div_eq_div_mul, P2_split]
theorem pow_fac {s : Nat} (h : s < 16) : 2 ^ s * 2 ^ (16 - s) = 65536 := by
  rw [← Nat.pow_add, show s + (16 - s) = 16 by omega]

theorem below_alloc0 (w : World) (o : Obj) : Below w.heap.size w (w.alloc o) := (Below.refl _ _).alloc (Nat.le_refl _) _

set_option maxHeartbeats 2000000 in
set_option maxRecDepth 100000 in
theorem shrR_any {w : World} {v : Value} {m : Nat} (ha : IsR w v m) (n : Nat) (hn : n < 9223372036854775808) (L : Nat) (hL : L ≤ 8589934592) (hm : m < P2 L) :
    Calls Try.prog 74 #[v, .int .i64 n] w (RetR w (m / P2 n)) := by
  obtain ⟨xs, ha, hca, rfl⟩ := ha
  have l1 := hca.len_R hm
  have ha' := id ha
  obtain ⟨ao, N, cap, b, off, rfl, hs⟩ := ha
  rw [hs.len] at l1
  have hN : N ≤ 600000000 := by omega
  have E1 := Lib.hid hs.len
  have hq := pow_small (show n % 16 < 16 by omega)
  have hr := pow_fac (show n % 16 < 16 by omega)
  have HP := Lib.hid (div_P2 (val 65536 xs) n)
  have hk : ((n : Int) / 16) = ((n / 16 : Nat) : Int) := rfl
  have hs16 : ((n : Int) % 16) = ((n % 16 : Nat) : Int) := rfl
  have HW := Lib.hid (fun w0 => power_any (n % 16) (by omega) w0)
  generalize hqq : 2 ^ (n % 16) = q at *
  generalize 2 ^ (16 - n % 16) = r at *
  have hkb : n / 16 ≤ 576460752303423488 := by omega
  have HYD := Lib.hid (val_drop_divR hca.1 (n / 16))
  have HDY := Lib.hid (hca.1.drop (n / 16))
  generalize n / 16 = k at *
  generalize n % 16 = s at *
  obtain ⟨hq1, hq2⟩ := hq
  have hr0 : (65536 : Int) / (q : Int) = (r : Int) := by
    rw [show (65536 : Int) = ((65536 : Nat) : Int) from rfl, ← Int.natCast_ediv, ← hr, Nat.mul_div_cancel_left _ (by omega)]
  have hr1 : r ≤ 65536 := by
    rw [← hr]; exact Nat.le_mul_of_pos_left _ (by omega)
  have HQR := Lib.hid hr
  clear hm hqq hr
  go_enter Try.func74, Try.ntmps74
  go_wp2_with fail
  refine (HW.out _).mono ?_
  rintro e wq ⟨rfl, hw⟩
  subst hw
  clear hs16
  go_wp2
  clear hk
  have HKB := Lib.hid hkb
  clear hkb hn
  go_loopw [5, 7] (fun o i wr => ∃ (j : Nat) (zs : List Nat), i = .int .i64 ((k + j : Nat) : Int) ∧ (j = 0 ∨ k + j ≤ N) ∧ Hid (ShrInv (xs.drop k) zs q j) ∧ Row wr wq.heap.size .i64 3 o zs ∧ Below wq.heap.size wq wr) (fun _ i _ => N - (intOf i).toNat)
  case atStart => exact ⟨0, [], rfl, .inl rfl, Lib.hid (ShrInv.zero _ _), Row.nil _ _ _ _, Below.refl _ _⟩
  case round =>
    obtain ⟨j, zs, rfl, hj, hinv, hrow, hb⟩ := hrel
    have hsz := hb.size
    by_cases hlt : k + j < N
    · have hzl : zs.length < 1099511627776 := by rw [hinv.out.len]; omega
      obtain rfl := hs.addr.resolve_right (by omega)
      have hc1 : wr.cell? ⟨b, off + (k + j), none⟩ = some (.int .i64 (nth xs (k + j))) := by
        rw [hb.cell (p := ⟨b, off + (k + j), none⟩) (hs.lt (by omega))]; exact hs.cells _ hlt
      have hx := hca.1.nth (by omega) (k + j)
      have hy := hca.1.nth (by omega) (k + j + 1)
      have HI := Lib.hid (hinv.out.step HDY.out HQR.out (by rw [List.length_drop, E1.out]; omega))
      rw [nth_drop, nth_drop, ← Nat.add_assoc] at HI
      have B2 := at_part (ha'.below hb) (k + j + 1) (by omega)
      generalize hi : k + j = i at *
      have HIJ := Lib.hid hi
      clear hi
      generalize hgx : nth xs i = x at *
      generalize hgy : nth xs (i + 1) = y at *
      clear hgx hgy
      have hyq : y % q * r ≤ 65535 * 65536 := Nat.mul_le_mul (by have := Nat.mod_le y q; omega) hr1
      have hd1 : (x : Int) / (q : Int) = ((x / q : Nat) : Int) := rfl
      have hd2 : (y : Int) % (q : Int) = ((y % q : Nat) : Int) := rfl
      have hd3 : x / q ≤ 65535 := by have := Nat.div_le_self x q; omega
      have hd4 : y % q ≤ 65535 := by have := Nat.mod_le y q; omega
      have hd5 : Int.tmod (y : Int) (q : Int) = ((y % q : Nat) : Int) := rfl
      have hr2 : Int.tdiv 65536 (q : Int) = (r : Int) := by rw [← hr0]; exact Int.tdiv_eq_ediv_of_nonneg (by omega)
      have hzq : ((y % q : Nat) : Int) * (r : Int) ≤ 65535 * 65536 ∧ 0 ≤ ((y % q : Nat) : Int) * (r : Int) := by
        rw [← Int.natCast_mul]; omega
      generalize hgx : x / q = d1 at *
      generalize hgy : y % q = d2 at *
      clear hgx hgy
      obtain ⟨z1, z2⟩ := hzq
      have HZ := Lib.hid hzl
      clear hzl hyq
      have hq0 : ¬ q = 0 := by omega
      have W1 : IntKind.i64.wrap (d1 : Int) = (d1 : Int) := IntWalk.i64_in _ (by omega)
      have W2 : IntKind.i64.wrap ((i : Int) + 1) = ((i + 1 : Nat) : Int) := IntWalk.i64_in _ (by omega)
      have W3 : IntKind.i64.wrap (d2 : Int) = (d2 : Int) := IntWalk.i64_in _ (by omega)
      have W4 : IntKind.i64.wrap (r : Int) = (r : Int) := IntWalk.i64_in _ (by omega)
      have W5 : IntKind.i64.wrap ((d2 : Int) * (r : Int)) = (d2 : Int) * (r : Int) := IntWalk.i64_in _ (by omega)
      have W6 : IntKind.i64.wrap ((d1 : Int) + (d2 : Int) * (r : Int)) = ((d1 + d2 * r : Nat) : Int) := by
        rw [Int.natCast_add, Int.natCast_mul]; exact IntWalk.i64_in _ (by omega)
      have hrd := hrow.keep (below_drewN' (Below.refl wr.heap.size wr) 1) (Nat.le_refl _)
      clear hrd
      go_wp2_with fail
      obtain ⟨wo, hwo⟩ : ∃ wo : World, wo = wr := ⟨_, rfl⟩
      rw [← hwo] at hrow hb hc1 hsz B2 ⊢
      clear hwo
      have hblt : b < wq.heap.size := hs.lt (by omega)
      have B3 : Calls Try.prog 104 #[.slice (some ⟨b, off, none⟩) N cap, .int .i64 ((i : Int) + 1)] wo.drew fun e w'' => e = .returned (.int .i64 (y : Int)) ∧ w'' = wo.drew := B2.out wo.drew rfl
      have B4 := Lib.hid B3
      clear B3
      go_region_held3 (fun w' => w'.cell? ⟨b, off + i, none⟩ = some (.int .i64 x) ∧ Below wq.heap.size wo w')
        (first
          | exact ⟨hc1, (Below.refl _ _).drew⟩
          | exact ⟨((below_alloc0 wo _).drew.cell (p := ⟨b, off + i, none⟩) (Nat.lt_of_lt_of_le hblt hsz)).trans hc1, ((Below.refl _ _).alloc hsz _).drew⟩
          | (go_split_ands; exact ⟨by assumption, by assumption⟩)
          | (go_split_ands; have hk := Below.trans (by assumption) bb; exact ⟨(hk.cell (p := ⟨b, off + i, none⟩) hblt).trans hc1, hk⟩))
        (first
          | (go_at_call 104; refine B4.out.mono ?_; rintro e w1 ⟨rfl, rfl⟩)
          | (refine step_append_row rfl (.tmp 19) (.tmp 36) 29 rfl wq.heap.size 3 .i64 8 Try.underlying29 ?_ ?_ u5 zs wo.heap.size (d1 + d2 * r) ?_ ?_ ?_ ?_ HZ.out ?_ ?_; (kernel_rfl); (omega); (rfl); (exact hrow.keep (below_alloc0 wo _).drew (Nat.le_refl _)); (rfl); (rw [Int.natCast_add, Int.natCast_mul]; exact (Blk.new wo #[.int .i64 ((d1 : Int) + (d2 : Int) * (r : Int))] 3).cell 0); (simp; omega); intro v' w' hrow' bb))
      go_split_ands
      have hC := Below.trans hb (by assumption)
      clear W1 W2 W3 W4 W5 W6 hr0 hr2 hd1 hd2 hd5
      go_wp2
      go_roundw
      case rel => exact ⟨j + 1, _, by rw [← HIJ.out]; go_num, .inr (by have := HIJ.out; omega), Lib.hid HI.out, hrow', hC⟩
      case measure => simp [intOf]; omega
    · have HF := Lib.hid (hinv.out.done (by rw [List.length_drop, E1.out]; omega))
      have hzl : zs.length ≤ 1099511627776 := by rw [hinv.out.len]; omega
      have HV : Hid (val 65536 zs = val 65536 xs / P2 n) := Lib.hid (by rw [HF.out, HYD.out, HP.out])
      have hnlt : decide (k + j < N) = false := decide_eq_false hlt
      go_wp2_with fail
      refine (trim_any _ _ _ (hrow.sl hzl hinv.out.dg.wf16)).mono ?_
      intro e w2 hr
      obtain ⟨v, rfl, hv, hb3⟩ := hr.numR hinv.out.dg HV.out hb
      go_wp2
      go_ret
      exact ⟨_, rfl, hv, hb3⟩

end Go.Proofs.Ytppbhjhbaknidaa
