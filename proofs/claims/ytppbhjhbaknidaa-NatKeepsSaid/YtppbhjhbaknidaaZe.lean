/-
  The contracts of the specification's Shl, Shr, Bit, Int. Condition: numbers of at most 2^33 bits. The contract of the specification's Bit. Condition: numbers of at most 2^33 bits. Plain arithmetic of the greatest common divisor by halving, of inverses, of powers modulo a number, of binomial coefficients. No condition. The contract of the specification's Gcd. Condition: numbers of at most 2^29 bits. The contract of the specification's DivMod, bit by bit. Condition: numbers of at most 2^29 bits. The best approximation of a fraction with a small denominator: plain arithmetic. No condition. The contracts of the program's Lsh, Rsh, Int, Bit of numbers. Condition: numbers of at most 2^29 bits. The contracts of the program's Bit, Binomial, Pow. Condition: numbers of at most 2^29 bits. The contracts of the program's Binomial and Pow, and of the specification's Binomial and Pow. Condition: numbers of at most 2^28 bits.
-/
import Derived.Test.YtppbhjhbaknidaaZd
import Derived.Deep.RegionHeld3
import Derived.Deep.AppendLies
import Derived.Deep.LoopGhost
import Derived.StillTailTactics
import Derived.Laws.BitsAllLaws
set_option linter.unusedVariables false
set_option linter.unusedSimpArgs false

/-
  The contracts of the specification's Shl, Shr, Bit, Int. Condition: numbers of at most 2^33 bits.
-/
set_option linter.unusedVariables false
set_option linter.unusedSimpArgs false
namespace Go.Proofs.Ytppbhjhbaknidaa
open Go.RowKit

theorem Own.row {w : World} {K : IntKind} {E : TypeId} {g : Nat} {xs : List Nat} (h : Own w K E g xs) {n B : Nat} (hn : xs.length = n) (hB : B ≤ g) (hm : n ≤ 1099511627776) :
    Row w B K E (.slice (some ⟨g, 0, none⟩) n n) xs := by
  subst hn
  refine ⟨by simp [intsOf], .inr ⟨g, xs.length, cellsOf K xs, rfl, hB, h, Nat.le_refl _, by unfold maxLen; omega, by simp [cellsOf], ?_⟩⟩
  have e : (cellsOf K xs).toList = intsOf K xs := by simp [cellsOf, intsOf]
  rw [e, List.take_of_length_le (by simp [intsOf])]

/-- 'append(xs, d)' to a row of the call's own, at a step of a region that draws. -/
theorem step_append_row {P : Program} {w : World} {ops : Array Oper} {o : Oper} {a : Act} {K' : Act → World → Prop} {Q : Exit → Act → World → Prop} {E' : Prop} (hgd : o.guard = none) (s x : Operand) (t : TypeId)
    (ho : o.op = .call { callee := .builtin .append, args := #[s, x], argTypes := #[t, t] })
    (B : Nat) (E : TypeId) (K : IntKind) (bytes : Nat) (h1 : P.underlying t = some (.slice E)) (h2 : (P.info? E).map (fun i => (i.zero, i.size, i.bytes)) = some (some (.int K 0), 1, bytes)) (hb : bytes ≤ 8)
    (v : Value) (xs : List Nat) (H d : Nat) (hs : a.eval s = v) (hrow : Row w B K E v xs) (hx : a.eval x = .slice (some ⟨H, 0, none⟩) 1 1) (hnew : w.cell? ⟨H, 0, none⟩ = some (.int K d))
    (hn : xs.length < 1099511627776) (hB : B ≤ w.heap.size)
    (h : ∀ v' w', Row w' B K E v' (xs ++ [d]) → Below B w w' → K' (a.put o.dst v') w') :
    if Region.wanted o (yielded ops a.tmps) = true then Oper.wp P o a w K' Q else E' := by
  obtain ⟨i, hi, hz0, hz1, hz2⟩ := info_parts h2
  have hb' : (xs.length + 1) * bytes ≤ (xs.length + 1) * 8 := Nat.mul_le_mul_left _ hb
  refine step_append_lies w hgd s x t ho B E i (.int K 0) 1 bytes h1 hi hz0 hz1 hz2 rfl (by decide) v xs.length (intsOf K xs) hs hrow ⟨H, 0, none⟩ 1 1 [.int K d] hx rfl ?_ ?_ (by decide) ?_ (by omega) hB w.heap.size rfl ?_
  · intro j u hj
    match j, hj with
    | 0, hj => simp at hj; subst hj; simpa [Addr.add] using hnew
  · intro u hu; simp at hu; subst hu; rfl
  · unfold maxLen; omega
  · intro g cap w' hown hgrow _ _
    refine h _ w' ?_ ?_
    · simpa [Row, intsOf] using hown
    · exact (Below.refl _ _).grown hgrow hB (fun k hk => (hrow.lt k hk).1)

structure ShlInv (xs ds : List Nat) (q i c : Nat) : Prop where
  len : ds.length = i
  dg : Dg 65536 ds
  eq : val 65536 ds + 65536 ^ i * c = val 65536 (xs.take i) * q
  car : c < q

theorem ShlInv.zero (xs : List Nat) {q : Nat} (hq : 0 < q) : ShlInv xs [] q 0 0 := ⟨rfl, Dg.nil _, by simp [val], hq⟩

theorem ShlInv.step {xs ds : List Nat} {q i c : Nat} (h : ShlInv xs ds q i c) (ha : Dg 65536 xs) :
    ShlInv xs (ds ++ [(c + nth xs i * q) % 65536]) q (i + 1) ((c + nth xs i * q) / 65536) := by
  have h1 := ha.nth (by omega) i
  have h2 := h.car
  have h3 : nth xs i * q ≤ 65535 * q := Nat.mul_le_mul_right _ (by omega)
  refine ⟨by simp [h.len], h.dg.snoc (Nat.mod_lt _ (by omega)), ?_, by omega⟩
  rw [val_snoc, val_take_succ, Nat.pow_succ, Nat.mul_assoc, Nat.add_assoc, h.len, ← Nat.mul_add, Nat.mod_add_div, Nat.mul_add, ← Nat.add_assoc, h.eq, Nat.add_mul, Nat.mul_assoc]

theorem ShlInv.done {xs ds : List Nat} {q i c : Nat} (h : ShlInv xs ds q i c) (hq : q ≤ 32768) (hi : xs.length ≤ i) (k : Nat) :
    Dg 65536 ((List.replicate k 0 ++ ds) ++ [c]) ∧ val 65536 ((List.replicate k 0 ++ ds) ++ [c]) = val 65536 xs * (65536 ^ k * q) := by
  have h2 := h.car
  refine ⟨((Dg.zeros (by omega) k).append h.dg).snoc (by omega), ?_⟩
  rw [List.append_assoc, val_append, val_zeros, Nat.zero_add, List.length_replicate, val_snoc, h.len, h.eq, val_take_ge _ hi, Nat.mul_left_comm]

theorem P2_split (n : Nat) : 65536 ^ (n / 16) * 2 ^ (n % 16) = P2 n := by
  rw [P2_16]; unfold P2
  rw [← Nat.pow_add]; congr 1; omega
theorem pow_small {s : Nat} (h : s < 16) : 1 ≤ 2 ^ s ∧ 2 ^ s ≤ 32768 := by
  refine ⟨Nat.one_le_two_pow, ?_⟩
  have : 2 ^ s ≤ 2 ^ 15 := Nat.pow_le_pow_right (by omega) (by omega)
  omega
theorem mul_bdS {x q : Nat} (hx : x < 65536) (hq : q ≤ 32768) : (x : Int) * (q : Int) ≤ 2147450880 ∧ 0 ≤ (x : Int) * (q : Int) := by
  have h : x * q ≤ 65535 * 32768 := Nat.mul_le_mul (by omega) hq
  rw [← Int.natCast_mul]
  omega

set_option maxHeartbeats 1000000 in
theorem shlR_any {w : World} {v : Value} {m : Nat} (ha : IsR w v m) (n : Nat) (hn : n ≤ 1073741824) (L : Nat) (hL : L ≤ 8589934592) (hm : m < P2 L) :
    Calls Try.prog 75 #[v, .int .i64 n] w (RetR w (m * P2 n)) := by
  obtain ⟨xs, ha, hca, rfl⟩ := ha
  have l1 := hca.len_R hm
  obtain ⟨ao, N, cap, b, off, rfl, hs⟩ := ha
  rw [hs.len] at l1
  have hN : N ≤ 600000000 := by omega
  have E1 := Lib.hid hs.len
  have hq := pow_small (show n % 16 < 16 by omega)
  have HP := Lib.hid (P2_split n)
  have hk : ((n : Int) / 16) = ((n / 16 : Nat) : Int) := rfl
  have hs16 : ((n : Int) % 16) = ((n % 16 : Nat) : Int) := rfl
  have HW := Lib.hid (fun w0 => power_any (n % 16) (by omega) w0)
  generalize hqq : 2 ^ (n % 16) = q at *
  have hkb : n / 16 ≤ 67108864 := by omega
  generalize n / 16 = k at *
  generalize n % 16 = s at *
  obtain ⟨hq1, hq2⟩ := hq
  clear hm hqq
  go_enter Try.func75, Try.ntmps75
  go_wp2_with (first | (at_make; refine wpList_make_nums _ rfl _ _ 29 rfl 3 .i64 8 Try.underlying29 (by kernel_rfl) .i64 .i64 _ _ k rfl rfl rfl rfl (by omega) (by omega) ?_; intro w1 hown hbel) | fail)
  refine (HW.out _).mono ?_
  rintro e wq ⟨rfl, hw⟩
  subst hw
  have hrow0 := hown.row (n := k) (by simp) (Nat.le_refl _) (by omega)
  clear hk hs16
  go_wp2
  go_loopw [5, 6, 8] (fun o c i wr => ∃ (j cc : Nat) (ds : List Nat), i = .int .i64 j ∧ c = .int .i64 cc ∧ j ≤ N ∧ ShlInv xs ds q j cc ∧ Row wr w.heap.size .i64 3 o (List.replicate k 0 ++ ds) ∧ Below w.heap.size w wr) (fun _ _ i _ => N - (intOf i).toNat)
  case atStart => exact ⟨0, 0, [], rfl, rfl, Nat.zero_le _, ShlInv.zero xs (by omega), by rw [List.append_nil]; exact hrow0, hbel⟩
  case round =>
    obtain ⟨j, cc, ds, rfl, rfl, hj, hinv, hrow, hb⟩ := hrel
    have hsz := hb.size
    have hcar := hinv.car
    have hzl : (List.replicate k 0 ++ ds).length < 1099511627776 := by rw [List.length_append, List.length_replicate, hinv.len]; omega
    clear hown hrow0 hbel
    by_cases hlt : j < N
    · obtain rfl := hs.addr.resolve_right (by omega)
      have hc1 : wr.cell? ⟨b, off + j, none⟩ = some (.int .i64 (nth xs j)) := by
        rw [hb.cell (p := ⟨b, off + j, none⟩) (hs.lt (by omega))]; exact hs.cells j hlt
      have hx := hca.1.nth (by omega) j
      have HI := Lib.hid (hinv.step hca.1)
      generalize nth xs j = x at *
      obtain ⟨p1, p2⟩ := mul_bdS hx hq2
      have HZ := Lib.hid hzl
      clear hzl
      go_wp2_with (at_builtin; go_loud (refine wpList_append_row _ rfl _ _ 29 rfl w.heap.size 3 .i64 8 Try.underlying29 (by kernel_rfl) (by omega) _ (List.replicate k 0 ++ ds) _ ((cc + x * q) % 65536) (by rfl) hrow (by rfl) (by rw [Int.natCast_emod, Int.natCast_add, Int.natCast_mul]; rfl) HZ.out hsz ?_; intro v' w' hrow' hbel' _))
      go_roundw
      case rel => exact ⟨j + 1, (cc + x * q) / 65536, _, by go_num, by rw [Int.natCast_ediv, Int.natCast_add, Int.natCast_mul]; rfl, by omega, HI.out, by rw [← List.append_assoc]; exact hrow', hb.trans hbel'⟩
      case measure => simp [intOf]; omega
    · have HF := Lib.hid (hinv.done hq2 (by rw [E1.out]; omega) k)
      have HZ := Lib.hid hzl
      clear hzl
      go_wp2_with (at_builtin; go_loud (refine wpList_append_row _ rfl _ _ 29 rfl w.heap.size 3 .i64 8 Try.underlying29 (by kernel_rfl) (by omega) _ (List.replicate k 0 ++ ds) _ cc (by rfl) hrow (by rfl) (by rfl) HZ.out hsz ?_; intro v' w' hrow' hbel' _))
      refine (trim_any _ _ _ (hrow'.sl (by rw [List.length_append]; have := HZ.out; simp at this ⊢; omega) HF.out.1.wf16)).mono ?_
      intro e w2 hr
      obtain ⟨v, rfl, hv, hb3⟩ := hr.numR HF.out.1 HF.out.2 (hb.trans hbel')
      go_wp2
      go_ret
      exact ⟨_, rfl, by rw [HP.out] at hv; exact hv, hb3⟩

structure ShrInv (ys zs : List Nat) (q i : Nat) : Prop where
  len : zs.length = i
  dg : Dg 65536 zs
  eq : val 65536 zs + 65536 ^ i * (val 65536 (ys.drop i) / q) = val 65536 ys / q

theorem ShrInv.zero (ys : List Nat) (q : Nat) : ShrInv ys [] q 0 := ⟨rfl, Dg.nil _, by simp [val]⟩

theorem nth_drop_mod {ys : List Nat} (hy : Dg 65536 ys) (i : Nat) : nth ys i = val 65536 (ys.drop i) % 65536 := by
  by_cases h : i < ys.length
  · rw [val_drop_cons _ h]
    have := hy.nth (by omega) i
    omega
  · rw [nth_ge (by omega), List.drop_of_length_le (by omega)]; rfl

theorem shr_digit {q r y V : Nat} (hqr : q * r = 65536) (hy : y < 65536) :
    (y + 65536 * V) / q = y / q + V % 65536 % q * r + 65536 * (V / q) ∧ y / q + V % 65536 % q * r < 65536 := by
  have hq : 0 < q := Nat.pos_of_ne_zero fun h => by subst h; simp at hqr
  have e1 : V % 65536 % q = V % q := Nat.mod_mod_of_dvd V ⟨r, hqr.symm⟩
  have e2 : (y + 65536 * V) / q = y / q + r * V := by
    rw [← hqr, Nat.mul_assoc, Nat.add_mul_div_left _ _ hq]
  have e3 := Nat.div_add_mod V q
  rw [e1, e2]
  have h1 : y / q < r := by rw [Nat.div_lt_iff_lt_mul hq, Nat.mul_comm]; omega
  have h2 := Nat.mod_lt V hq
  generalize V % q = t at *
  generalize V / q = u at *
  refine ⟨?_, ?_⟩
  · rw [← e3, ← hqr, Nat.mul_add, Nat.mul_comm t r, Nat.mul_left_comm r q u, ← Nat.mul_assoc q r u]
    omega
  · have h3 : (t + 1) * r ≤ q * r := Nat.mul_le_mul_right _ h2
    rw [Nat.add_mul, Nat.one_mul] at h3
    omega

theorem ShrInv.step {ys zs : List Nat} {q r i : Nat} (h : ShrInv ys zs q i) (hy : Dg 65536 ys) (hqr : q * r = 65536) (hi : i < ys.length) :
    ShrInv ys (zs ++ [nth ys i / q + nth ys (i + 1) % q * r]) q (i + 1) := by
  have h0 := hy.nth (by omega) i
  have ⟨d1, d2⟩ := shr_digit (V := val 65536 (ys.drop (i + 1))) hqr h0
  rw [← nth_drop_mod hy] at d1 d2
  refine ⟨by simp [h.len], h.dg.snoc d2, ?_⟩
  rw [← h.eq, val_drop_cons _ hi, d1, val_snoc, h.len, Nat.pow_succ, Nat.mul_assoc]
  generalize nth ys i / q + nth ys (i + 1) % q * r = D
  rw [Nat.mul_add (65536 ^ i) D]
  omega

theorem ShrInv.done {ys zs : List Nat} {q i : Nat} (h : ShrInv ys zs q i) (hi : ys.length ≤ i) : val 65536 zs = val 65536 ys / q := by
  rw [← h.eq, List.drop_of_length_le hi]; simp [val]

theorem val_drop_divR {xs : List Nat} (h : Dg 65536 xs) (k : Nat) : val 65536 (xs.drop k) = val 65536 xs / 65536 ^ k := by
  by_cases hk : k ≤ xs.length
  · have e := val_take_drop 65536 xs k hk
    have h1 := val_lt (h.take k)
    rw [List.length_take, Nat.min_eq_left hk] at h1
    rw [e, Nat.add_mul_div_left _ _ (Nat.pow_pos (by omega)), Nat.div_eq_of_lt h1, Nat.zero_add]
  · rw [List.drop_of_length_le (by omega)]
    have h1 := val_lt h
    have h2 : 65536 ^ xs.length ≤ 65536 ^ k := Nat.pow_le_pow_right (by omega) (by omega)
    rw [Nat.div_eq_of_lt (by omega)]; rfl

theorem div_P2 (m n : Nat) : m / 65536 ^ (n / 16) / 2 ^ (n % 16) = m / P2 n := by
  rw [Nat.div_div_eq_div_mul, P2_split]
theorem pow_fac {s : Nat} (h : s < 16) : 2 ^ s * 2 ^ (16 - s) = 65536 := by
  rw [← Nat.pow_add, show s + (16 - s) = 16 by omega]

theorem below_alloc0 (w : World) (o : Obj) : Below w.heap.size w (w.alloc o) := (Below.refl _ _).alloc (Nat.le_refl _) _

set_option maxHeartbeats 2000000 in
set_option maxRecDepth 100000 in
theorem shrR_any {w : World} {v : Value} {m : Nat} (ha : IsR w v m) (n : Nat) (hn : n < 9223372036854775808) (L : Nat) (hL : L ≤ 8589934592) (hm : m < P2 L) :
    Calls Try.prog 74 #[v, .int .i64 n] w (RetR w (m / P2 n)) := by
  obtain ⟨xs, ha, hca, rfl⟩ := ha
  have l1 := hca.len_R hm
  have ha' := id ha
  obtain ⟨ao, N, cap, b, off, rfl, hs⟩ := ha
  rw [hs.len] at l1
  have hN : N ≤ 600000000 := by omega
  have E1 := Lib.hid hs.len
  have hq := pow_small (show n % 16 < 16 by omega)
  have hr := pow_fac (show n % 16 < 16 by omega)
  have HP := Lib.hid (div_P2 (val 65536 xs) n)
  have hk : ((n : Int) / 16) = ((n / 16 : Nat) : Int) := rfl
  have hs16 : ((n : Int) % 16) = ((n % 16 : Nat) : Int) := rfl
  have HW := Lib.hid (fun w0 => power_any (n % 16) (by omega) w0)
  generalize hqq : 2 ^ (n % 16) = q at *
  generalize 2 ^ (16 - n % 16) = r at *
  have hkb : n / 16 ≤ 576460752303423488 := by omega
  have HYD := Lib.hid (val_drop_divR hca.1 (n / 16))
  have HDY := Lib.hid (hca.1.drop (n / 16))
  generalize n / 16 = k at *
  generalize n % 16 = s at *
  obtain ⟨hq1, hq2⟩ := hq
  have hr0 : (65536 : Int) / (q : Int) = (r : Int) := by
    rw [show (65536 : Int) = ((65536 : Nat) : Int) from rfl, ← Int.natCast_ediv, ← hr, Nat.mul_div_cancel_left _ (by omega)]
  have hr1 : r ≤ 65536 := by
    rw [← hr]; exact Nat.le_mul_of_pos_left _ (by omega)
  have HQR := Lib.hid hr
  clear hm hqq hr
  go_enter Try.func74, Try.ntmps74
  go_wp2_with fail
  refine (HW.out _).mono ?_
  rintro e wq ⟨rfl, hw⟩
  subst hw
  clear hs16
  go_wp2
  clear hk
  have HKB := Lib.hid hkb
  clear hkb hn
  go_loopw [5, 7] (fun o i wr => ∃ (j : Nat) (zs : List Nat), i = .int .i64 ((k + j : Nat) : Int) ∧ (j = 0 ∨ k + j ≤ N) ∧ Hid (ShrInv (xs.drop k) zs q j) ∧ Row wr wq.heap.size .i64 3 o zs ∧ Below wq.heap.size wq wr) (fun _ i _ => N - (intOf i).toNat)
  case atStart => exact ⟨0, [], rfl, .inl rfl, Lib.hid (ShrInv.zero _ _), Row.nil _ _ _ _, Below.refl _ _⟩
  case round =>
    obtain ⟨j, zs, rfl, hj, hinv, hrow, hb⟩ := hrel
    have hsz := hb.size
    by_cases hlt : k + j < N
    · have hzl : zs.length < 1099511627776 := by rw [hinv.out.len]; omega
      obtain rfl := hs.addr.resolve_right (by omega)
      have hc1 : wr.cell? ⟨b, off + (k + j), none⟩ = some (.int .i64 (nth xs (k + j))) := by
        rw [hb.cell (p := ⟨b, off + (k + j), none⟩) (hs.lt (by omega))]; exact hs.cells _ hlt
      have hx := hca.1.nth (by omega) (k + j)
      have hy := hca.1.nth (by omega) (k + j + 1)
      have HI := Lib.hid (hinv.out.step HDY.out HQR.out (by rw [List.length_drop, E1.out]; omega))
      rw [nth_drop, nth_drop, ← Nat.add_assoc] at HI
      have B2 := at_part (ha'.below hb) (k + j + 1) (by omega)
      generalize hi : k + j = i at *
      have HIJ := Lib.hid hi
      clear hi
      generalize hgx : nth xs i = x at *
      generalize hgy : nth xs (i + 1) = y at *
      clear hgx hgy
      have hyq : y % q * r ≤ 65535 * 65536 := Nat.mul_le_mul (by have := Nat.mod_le y q; omega) hr1
      have hd1 : (x : Int) / (q : Int) = ((x / q : Nat) : Int) := rfl
      have hd2 : (y : Int) % (q : Int) = ((y % q : Nat) : Int) := rfl
      have hd3 : x / q ≤ 65535 := by have := Nat.div_le_self x q; omega
      have hd4 : y % q ≤ 65535 := by have := Nat.mod_le y q; omega
      have hd5 : Int.tmod (y : Int) (q : Int) = ((y % q : Nat) : Int) := rfl
      have hr2 : Int.tdiv 65536 (q : Int) = (r : Int) := by rw [← hr0]; exact Int.tdiv_eq_ediv_of_nonneg (by omega)
      have hzq : ((y % q : Nat) : Int) * (r : Int) ≤ 65535 * 65536 ∧ 0 ≤ ((y % q : Nat) : Int) * (r : Int) := by
        rw [← Int.natCast_mul]; omega
      generalize hgx : x / q = d1 at *
      generalize hgy : y % q = d2 at *
      clear hgx hgy
      obtain ⟨z1, z2⟩ := hzq
      have HZ := Lib.hid hzl
      clear hzl hyq
      have hq0 : ¬ q = 0 := by omega
      have W1 : IntKind.i64.wrap (d1 : Int) = (d1 : Int) := IntWalk.i64_in _ (by omega)
      have W2 : IntKind.i64.wrap ((i : Int) + 1) = ((i + 1 : Nat) : Int) := IntWalk.i64_in _ (by omega)
      have W3 : IntKind.i64.wrap (d2 : Int) = (d2 : Int) := IntWalk.i64_in _ (by omega)
      have W4 : IntKind.i64.wrap (r : Int) = (r : Int) := IntWalk.i64_in _ (by omega)
      have W5 : IntKind.i64.wrap ((d2 : Int) * (r : Int)) = (d2 : Int) * (r : Int) := IntWalk.i64_in _ (by omega)
      have W6 : IntKind.i64.wrap ((d1 : Int) + (d2 : Int) * (r : Int)) = ((d1 + d2 * r : Nat) : Int) := by
        rw [Int.natCast_add, Int.natCast_mul]; exact IntWalk.i64_in _ (by omega)
      have hrd := hrow.keep (below_drewN' (Below.refl wr.heap.size wr) 1) (Nat.le_refl _)
      clear hrd
      go_wp2_with fail
      obtain ⟨wo, hwo⟩ : ∃ wo : World, wo = wr := ⟨_, rfl⟩
      rw [← hwo] at hrow hb hc1 hsz B2 ⊢
      clear hwo
      have hblt : b < wq.heap.size := hs.lt (by omega)
      have B3 : Calls Try.prog 104 #[.slice (some ⟨b, off, none⟩) N cap, .int .i64 ((i : Int) + 1)] wo.drew fun e w'' => e = .returned (.int .i64 (y : Int)) ∧ w'' = wo.drew := B2.out wo.drew rfl
      have B4 := Lib.hid B3
      clear B3
      go_region_held3 (fun w' => w'.cell? ⟨b, off + i, none⟩ = some (.int .i64 x) ∧ Below wq.heap.size wo w')
        (first
          | exact ⟨hc1, (Below.refl _ _).drew⟩
          | exact ⟨((below_alloc0 wo _).drew.cell (p := ⟨b, off + i, none⟩) (Nat.lt_of_lt_of_le hblt hsz)).trans hc1, ((Below.refl _ _).alloc hsz _).drew⟩
          | (go_split_ands; exact ⟨by assumption, by assumption⟩)
          | (go_split_ands; have hk := Below.trans (by assumption) bb; exact ⟨(hk.cell (p := ⟨b, off + i, none⟩) hblt).trans hc1, hk⟩))
        (first
          | (go_at_call 104; refine B4.out.mono ?_; rintro e w1 ⟨rfl, rfl⟩)
          | (refine step_append_row rfl (.tmp 19) (.tmp 36) 29 rfl wq.heap.size 3 .i64 8 Try.underlying29 ?_ ?_ u5 zs wo.heap.size (d1 + d2 * r) ?_ ?_ ?_ ?_ HZ.out ?_ ?_; (kernel_rfl); (omega); (rfl); (exact hrow.keep (below_alloc0 wo _).drew (Nat.le_refl _)); (rfl); (rw [Int.natCast_add, Int.natCast_mul]; exact (Blk.new wo #[.int .i64 ((d1 : Int) + (d2 : Int) * (r : Int))] 3).cell 0); (simp; omega); intro v' w' hrow' bb))
      go_split_ands
      have hC := Below.trans hb (by assumption)
      clear W1 W2 W3 W4 W5 W6 hr0 hr2 hd1 hd2 hd5
      go_wp2
      go_roundw
      case rel => exact ⟨j + 1, _, by rw [← HIJ.out]; go_num, .inr (by have := HIJ.out; omega), Lib.hid HI.out, hrow', hC⟩
      case measure => simp [intOf]; omega
    · have HF := Lib.hid (hinv.out.done (by rw [List.length_drop, E1.out]; omega))
      have hzl : zs.length ≤ 1099511627776 := by rw [hinv.out.len]; omega
      have HV : Hid (val 65536 zs = val 65536 xs / P2 n) := Lib.hid (by rw [HF.out, HYD.out, HP.out])
      have hnlt : decide (k + j < N) = false := decide_eq_false hlt
      go_wp2_with fail
      refine (trim_any _ _ _ (hrow.sl hzl hinv.out.dg.wf16)).mono ?_
      intro e w2 hr
      obtain ⟨v, rfl, hv, hb3⟩ := hr.numR hinv.out.dg HV.out hb
      go_wp2
      go_ret
      exact ⟨_, rfl, hv, hb3⟩

end Go.Proofs.Ytppbhjhbaknidaa

/-
  The contract of the specification's Bit. Condition: numbers of at most 2^33 bits.
-/
set_option linter.unusedVariables false
set_option linter.unusedSimpArgs false
namespace Go.Proofs.Ytppbhjhbaknidaa
open Go.RowKit

theorem nth_digit {xs : List Nat} (h : Dg 65536 xs) (k : Nat) : nth xs k = val 65536 xs / 65536 ^ k % 65536 := by
  rw [nth_drop_mod h, val_drop_divR h]

theorem bit_digit {V s : Nat} (hs : s < 16) : V % 65536 / 2 ^ s % 2 = V / 2 ^ s % 2 := by
  have e := Nat.mod_add_div V 65536
  have h2 : 65536 = 2 ^ s * (2 * 2 ^ (15 - s)) := by
    have := pow_fac hs
    rw [show 16 - s = (15 - s) + 1 by omega, Nat.pow_succ] at this
    rw [← this, Nat.mul_comm (2 ^ (15 - s)) 2]
  generalize V % 65536 = r at *
  generalize V / 65536 = u at *
  have h3 : V / 2 ^ s = r / 2 ^ s + 2 * (2 ^ (15 - s) * u) := by
    rw [← e, h2, Nat.mul_assoc, Nat.add_mul_div_left _ _ (Nat.pow_pos (by omega)), Nat.mul_assoc]
  rw [h3]; omega

/-- Binary digit i. -/
def bitAt (n i : Nat) : Nat := n / P2 i % 2
theorem bitAt_digit {xs : List Nat} (h : Dg 65536 xs) (i : Nat) : nth xs (i / 16) / 2 ^ (i % 16) % 2 = bitAt (val 65536 xs) i := by
  unfold bitAt
  rw [nth_digit h, bit_digit (by omega), div_P2]
theorem bitAt_lt (n i : Nat) : bitAt n i < 2 := Nat.mod_lt _ (by omega)
theorem bitAt_ge {n i : Nat} (h : n < P2 i) : bitAt n i = 0 := by unfold bitAt; rw [Nat.div_eq_of_lt h]

set_option maxHeartbeats 1000000 in
set_option maxRecDepth 100000 in
theorem bitR_any {w : World} {v : Value} {m : Nat} (ha : IsR w v m) (i : Nat) (hi : i < 9223372036854775808) (L : Nat) (hL : L ≤ 8589934592) (hm : m < P2 L) :
    Calls Try.prog 79 #[v, .int .i64 i] w fun e w' => e = .returned (.int .i64 (bitAt m i : Nat)) ∧ ∃ n, w' = w.drewN n := by
  obtain ⟨xs, ha, hca, rfl⟩ := ha
  have l1 := hca.len_R hm
  obtain ⟨ao, N, cap, b, off, rfl, hs⟩ := ha
  rw [hs.len] at l1
  have hN : N ≤ 600000000 := by omega
  have hv := val_lt hca.1
  rw [P2_16, hs.len] at hv
  have hi0 : decide ((i : Int) < 0) = false := decide_eq_false (by omega)
  by_cases h : 16 * N ≤ i
  · have hz := bitAt_ge (lt_P2_mono hv h)
    have HZ := Lib.hid hz
    have hd : decide (16 * (N : Int) ≤ (i : Int)) = true := decide_eq_true (by omega)
    clear hz hv hm
    go_enter Try.func79, Try.ntmps79
    go_wp2
    go_ret
    exact ⟨by rw [HZ.out]; rfl, 0, rfl⟩
  · have hd : decide (16 * (N : Int) ≤ (i : Int)) = false := decide_eq_false (by omega)
    have HB := Lib.hid (bitAt_digit hca.1 i)
    have hk : i / 16 < N := by omega
    obtain rfl := hs.addr.resolve_right (by omega)
    have hc1 := hs.cells (i / 16) hk
    have hx := hca.1.nth (by omega) (i / 16)
    have hq := pow_small (show i % 16 < 16 by omega)
    have HW := Lib.hid (fun w0 => power_any (i % 16) (by omega) w0)
    have e1 : Int.tdiv (i : Int) 16 = ((i / 16 : Nat) : Int) := rfl
    have e2 : Int.tmod (i : Int) 16 = ((i % 16 : Nat) : Int) := rfl
    have e3 : (i : Int) / 16 = ((i / 16 : Nat) : Int) := rfl
    have e4 : (i : Int) % 16 = ((i % 16 : Nat) : Int) := rfl
    generalize 2 ^ (i % 16) = q at *
    generalize i % 16 = s at *
    generalize hkk : i / 16 = k at *
    generalize nth xs k = x at *
    obtain ⟨hq1, hq2⟩ := hq
    have hq0 : ¬ q = 0 := by omega
    have hd3 : x / q ≤ 65535 := by have := Nat.div_le_self x q; omega
    have e5 : Int.tdiv (x : Int) (q : Int) = ((x / q : Nat) : Int) := rfl
    have e6 : (x : Int) / (q : Int) = ((x / q : Nat) : Int) := rfl
    generalize x / q = d at *
    have e7 : Int.tmod (d : Int) 2 = ((d % 2 : Nat) : Int) := rfl
    have e8 : (d : Int) % 2 = ((d % 2 : Nat) : Int) := rfl
    have ht : d % 2 < 2 := Nat.mod_lt _ (by omega)
    generalize d % 2 = t at *
    have W1 : IntKind.i64.wrap (d : Int) = (d : Int) := IntWalk.i64_in _ (by omega)
    have W2 : IntKind.i64.wrap (t : Int) = (t : Int) := IntWalk.i64_in _ (by omega)
    have W3 : IntKind.i64.wrap (k : Int) = (k : Int) := IntWalk.i64_in _ (by omega)
    have W4 : IntKind.i64.wrap (s : Int) = (s : Int) := IntWalk.i64_in _ (by omega)
    clear hv hm h hi hkk
    go_enter Try.func79, Try.ntmps79
    go_wp2
    go_quiet ((go_at_call 113; (with_reducible refine Calls.quiet_of_same (HW.out _))))
    go_wp2
    go_ret
    exact ⟨by rw [← HB.out]; rfl, _, rfl⟩

end Go.Proofs.Ytppbhjhbaknidaa

/-
  Plain arithmetic of the greatest common divisor by halving, of inverses, of powers modulo a number, of binomial coefficients. No condition.
-/
set_option linter.unusedSimpArgs false
set_option linter.unusedVariables false
namespace Go.Proofs.Ytppbhjhbaknidaa

theorem gcd_half {a b : Nat} (ha : a % 2 = 0) (hb : b % 2 = 1) : Nat.gcd (a / 2) b = Nat.gcd a b := by
  have h : Nat.Coprime 2 b := by
    unfold Nat.Coprime
    rw [Nat.gcd_rec, hb]
    rfl
  have e : a = 2 * (a / 2) := by omega
  conv => rhs; rw [e]
  exact (Nat.Coprime.gcd_mul_left_cancel (a / 2) h).symm

theorem gcd_half' {a b : Nat} (ha : a % 2 = 1) (hb : b % 2 = 0) : Nat.gcd a (b / 2) = Nat.gcd a b := by
  rw [Nat.gcd_comm, gcd_half hb ha, Nat.gcd_comm]

theorem gcd_two {a b : Nat} (ha : a % 2 = 0) (hb : b % 2 = 0) : 2 * Nat.gcd (a / 2) (b / 2) = Nat.gcd a b := by
  rw [← Nat.gcd_mul_left]
  congr 1 <;> omega

theorem gcd_subl {a b : Nat} (h : b ≤ a) : Nat.gcd (a - b) b = Nat.gcd a b := by
  obtain ⟨c, rfl⟩ := Nat.exists_eq_add_of_le h
  rw [Nat.add_sub_cancel_left, Nat.add_comm b c, Nat.gcd_add_self_left]

theorem gcd_subr {a b : Nat} (h : a ≤ b) : Nat.gcd a (b - a) = Nat.gcd a b := by
  rw [Nat.gcd_comm, gcd_subl h, Nat.gcd_comm]

/-- Congruent modulo m. -/
def Cg (m a b : Nat) : Prop := ∃ i j, a + m * i = b + m * j

theorem Cg.refl (m a : Nat) : Cg m a a := ⟨0, 0, rfl⟩
theorem Cg.symm {m a b : Nat} (h : Cg m a b) : Cg m b a := let ⟨i, j, e⟩ := h; ⟨j, i, e.symm⟩
theorem Cg.trans {m a b c : Nat} (h : Cg m a b) (g : Cg m b c) : Cg m a c := by
  obtain ⟨i, j, e⟩ := h
  obtain ⟨k, l, f⟩ := g
  refine ⟨i + k, j + l, ?_⟩
  rw [Nat.mul_add, Nat.mul_add]; omega
theorem Cg.mod {m a b : Nat} (h : Cg m a b) : a % m = b % m := by
  obtain ⟨i, j, e⟩ := h
  rw [← Nat.add_mul_mod_self_left a m i, e, Nat.add_mul_mod_self_left]
theorem Cg.of_mod (m a : Nat) : Cg m (a % m) a := ⟨a / m, 0, by rw [Nat.mul_zero, Nat.add_zero, Nat.mod_add_div]⟩
theorem Cg.of_eq {m a b : Nat} (h : a % m = b % m) : Cg m a b := (Cg.of_mod m a).symm.trans (h ▸ Cg.of_mod m b)
theorem Cg.mul {m a b : Nat} (h : Cg m a b) (c : Nat) : Cg m (c * a) (c * b) := by
  obtain ⟨i, j, e⟩ := h
  refine ⟨c * i, c * j, ?_⟩
  have := congrArg (c * ·) e
  simp only [Nat.mul_add, Nat.mul_comm, Nat.mul_left_comm, Nat.mul_assoc] at this ⊢
  exact this
theorem Cg.add {m a b : Nat} (h : Cg m a b) (c : Nat) : Cg m (c + a) (c + b) := by
  obtain ⟨i, j, e⟩ := h
  exact ⟨i, j, by omega⟩
theorem Cg.cancel {m a b c : Nat} (h : Cg m (c + a) (c + b)) : Cg m a b := by
  obtain ⟨i, j, e⟩ := h
  exact ⟨i, j, by omega⟩

/-- The loop of Inverse. -/
structure InvL (A m last r lastX x : Nat) : Prop where
  cl : Cg m (lastX * A) last
  cr : Cg m (x * A) r
  lx : lastX < m
  xm : x < m
  g : Nat.gcd last r = Nat.gcd A m
  le : last ≤ m ∧ r ≤ m

theorem InvL.start {A m : Nat} (hm : 0 < m) : InvL A m m (A % m) 0 (1 % m) := by
  refine ⟨⟨1, 0, by omega⟩, ?_, hm, Nat.mod_lt _ hm, ?_, Nat.le_refl _, Nat.le_of_lt (Nat.mod_lt _ hm)⟩
  · have h1 : Cg m (1 % m * A) (1 * A) := by
      have := (Cg.of_mod m 1).mul A
      rw [Nat.mul_comm A, Nat.mul_comm A] at this
      exact this
    rw [Nat.one_mul] at h1
    exact h1.trans (Cg.of_mod m A).symm
  · rw [Nat.gcd_comm A m, Nat.gcd_rec m A, Nat.gcd_comm]

def invNext (m lastX back : Nat) : Nat := if lastX < back then lastX + m - back else lastX - back

theorem InvL.step {A m last r lastX x : Nat} (h : InvL A m last r lastX x) (hm : 0 < m) (hr : 0 < r) :
    InvL A m r (last % r) x (invNext m lastX (last / r * x % m)) := by
  have hb := Nat.mod_lt (last / r * x) hm
  have hbc := Cg.of_mod m (last / r * x)
  have hlx := h.lx
  have hrl := Nat.mod_lt last hr
  have hle := h.le
  refine ⟨h.cr, ?_, h.xm, by unfold invNext; split <;> omega, ?_, h.le.2, by omega⟩
  · generalize last / r * x % m = back at *
    have e1 : Cg m (back * A) (last / r * r) := by
      have h1 := hbc.mul A
      have h2 := h.cr.mul (last / r)
      rw [Nat.mul_comm A back, Nat.mul_comm A, Nat.mul_assoc] at h1
      exact h1.trans h2
    have e2 : Cg m (back * A + invNext m lastX back * A) last := by
      refine Cg.trans ?_ h.cl
      rw [← Nat.add_mul]
      unfold invNext
      split
      · rw [show back + (lastX + m - back) = lastX + m by omega, Nat.add_mul]
        exact ⟨0, A, by omega⟩
      · rw [show back + (lastX - back) = lastX by omega]
        exact Cg.refl _ _
    have e3 : Cg m (back * A + invNext m lastX back * A) (back * A + last % r) := by
      refine e2.trans ?_
      have e4 := (e1.symm).add (last % r)
      have e5 := Nat.mod_add_div last r
      rw [Nat.mul_comm r] at e5
      rw [e5, Nat.add_comm (last % r) (back * A)] at e4
      exact e4
    exact e3.cancel
  · rw [← h.g, Nat.gcd_comm last r, Nat.gcd_rec r last, Nat.gcd_comm]

theorem InvL.done {A m last lastX x : Nat} (h : InvL A m last 0 lastX x) : last = Nat.gcd A m ∧ (last = 1 → A * lastX % m = 1 % m) := by
  have hg := h.g
  rw [Nat.gcd_zero_right] at hg
  refine ⟨hg, fun h1 => ?_⟩
  have := h.cl.mod
  rw [h1] at this
  rw [Nat.mul_comm]; exact this

/-! Powers modulo a number, by the bits of the exponent from the top. -/

theorem powmod_step {a m e i : Nat} : (a ^ (e / 2 ^ (i + 1)) % m * (a ^ (e / 2 ^ (i + 1)) % m)) % m = a ^ (2 * (e / 2 ^ (i + 1))) % m := by
  rw [← Nat.mul_mod, ← Nat.pow_add]
  congr 2
  omega

theorem pow_even {a e i : Nat} (h : e / 2 ^ i % 2 = 0) : 2 * (e / 2 ^ (i + 1)) = e / 2 ^ i := by
  rw [Nat.pow_succ, ← Nat.div_div_eq_div_mul]; omega
theorem pow_odd {e i : Nat} (h : e / 2 ^ i % 2 = 1) : 2 * (e / 2 ^ (i + 1)) + 1 = e / 2 ^ i := by
  rw [Nat.pow_succ, ← Nat.div_div_eq_div_mul]; omega

/-! Binomial coefficients. -/

/-- n over k. -/
def binom : Nat → Nat → Nat
  | _, 0 => 1
  | 0, _ + 1 => 0
  | n + 1, k + 1 => binom n k + binom n (k + 1)

theorem binom_zero (n : Nat) : binom n 0 = 1 := by cases n <;> rfl
theorem binom_succ (n k : Nat) : binom (n + 1) (k + 1) = binom n k + binom n (k + 1) := rfl
theorem binom_gt {n : Nat} : ∀ {k : Nat}, n < k → binom n k = 0 := by
  induction n with
  | zero => intro k h; match k, h with
    | k + 1, _ => rfl
  | succ n ih => intro k h; match k, h with
    | k + 1, h => rw [binom_succ, ih (by omega), ih (by omega)]
theorem binom_self (n : Nat) : binom n n = 1 := by
  induction n with
  | zero => rfl
  | succ n ih => rw [binom_succ, ih, binom_gt (by omega)]

/-- The step of the product. -/
theorem binom_step (n : Nat) : ∀ k, binom n (k + 1) * (k + 1) = binom n k * (n - k) := by
  induction n with
  | zero => intro k; simp [binom]
  | succ n ih =>
    intro k
    match k with
    | 0 =>
      have h := ih 0
      rw [binom_succ]
      simp only [binom_zero] at h ⊢
      omega
    | k + 1 =>
      have h1 := ih k
      have h2 := ih (k + 1)
      rw [binom_succ n (k + 1), binom_succ n k]
      by_cases hk : k + 1 ≤ n
      · obtain ⟨d, rfl⟩ := Nat.exists_eq_add_of_le hk
        rw [show k + 1 + d - k = d + 1 by omega] at h1
        rw [show k + 1 + d - (k + 1) = d by omega] at h2
        rw [show k + 1 + d + 1 - (k + 1) = d + 1 by omega]
        generalize binom (k + 1 + d) (k + 1) = y at *
        generalize binom (k + 1 + d) k = x at *
        generalize binom (k + 1 + d) (k + 1 + 1) = z at *
        simp only [Nat.mul_add, Nat.add_mul, Nat.mul_one] at *
        omega
      · rw [show n + 1 - (k + 1) = 0 by omega, binom_gt (show n < k + 1 by omega), binom_gt (show n < k + 1 + 1 by omega)]
        simp

theorem binom_symm {n : Nat} : ∀ {k : Nat}, k ≤ n → binom n (n - k) = binom n k := by
  induction n with
  | zero => intro k h; rw [show k = 0 by omega]
  | succ n ih =>
    intro k h
    match k with
    | 0 => rw [Nat.sub_zero, binom_self, binom_zero]
    | k + 1 =>
      by_cases hk : k = n
      · subst hk; rw [Nat.sub_self, binom_zero, binom_self]
      · have h1 := ih (k := k) (by omega)
        have h2 := ih (k := k + 1) (by omega)
        rw [show n + 1 - (k + 1) = (n - (k + 1)) + 1 by omega, binom_succ, binom_succ, h2, show n - (k + 1) + 1 = n - k by omega, h1]
        omega

theorem binom_le (n : Nat) : ∀ k, binom n k ≤ 2 ^ n := by
  induction n with
  | zero => intro k; match k with
    | 0 => exact Nat.le_refl _
    | k + 1 => exact Nat.zero_le _
  | succ n ih =>
    intro k
    match k with
    | 0 => rw [binom_zero]; exact Nat.one_le_two_pow
    | k + 1 =>
      have h1 := ih k
      have h2 := ih (k + 1)
      rw [binom_succ, Nat.pow_succ]
      omega

theorem binom_div (n k : Nat) : binom n k * (n - k) / (k + 1) = binom n (k + 1) := by
  rw [← binom_step, Nat.mul_div_cancel _ (Nat.succ_pos k)]

/-- The coefficient that the program computes. -/
theorem binom_min {n k : Nat} (h : k ≤ n) : binom n (min k (n - k)) = binom n k := by
  by_cases h1 : k ≤ n - k
  · rw [Nat.min_eq_left h1]
  · rw [Nat.min_eq_right (by omega), binom_symm h]

end Go.Proofs.Ytppbhjhbaknidaa

/-
  The contract of the specification's Gcd. Condition: numbers of at most 2^29 bits.
-/
set_option linter.unusedVariables false
set_option linter.unusedSimpArgs false
namespace Go.Proofs.Ytppbhjhbaknidaa
open Go.RowKit

theorem IsR.first {w : World} {v : Value} {p : Nat} (h : IsR w v p) (hp : 0 < p) :
    ∃ b off k cap x, v = .slice (some ⟨b, off, none⟩) k cap ∧ 0 < k ∧ k ≤ 1099511627776 ∧ w.cell? ⟨b, off, none⟩ = some (.int .i64 (x : Nat)) ∧ x < 65536 ∧ x % 2 = p % 2 := by
  obtain ⟨xs, ⟨ao, k, cap, b, off, rfl, hs⟩, hc, hv⟩ := h
  have hk : 0 < k := by
    refine Nat.pos_of_ne_zero fun h0 => ?_
    have : xs = [] := List.length_eq_zero_iff.1 (by rw [hs.len, h0])
    rw [this] at hv
    simp [val] at hv
    omega
  obtain rfl := hs.addr.resolve_right (by omega)
  have hcell := hs.cells 0 hk
  refine ⟨b, off, k, cap, nth xs 0, rfl, hk, hs.max.1, hcell, hc.1.nth (by omega) 0, ?_⟩
  cases xs with
  | nil => have := hs.len; simp at this; omega
  | cons x ys =>
    rw [nth_zero, ← hv, val]
    omega
theorem P2_one : P2 1 = 2 := rfl

set_option maxHeartbeats 4000000 in
set_option maxRecDepth 100000 in
theorem gcdR_any {w : World} {va vb : Value} {m n : Nat} (ha : IsR w va m) (hb : IsR w vb n) (L : Nat) (hL : L ≤ 536870912) (hm : m < P2 L) (hn : n < P2 L) :
    Calls Try.prog 40 #[va, vb] w (RetR w (Nat.gcd m n)) := by
  obtain ⟨ao, k, cap, rfl, hk, hk2⟩ := ha.slice
  by_cases hm0 : m = 0
  · have hk0 := hk.2 hm0
    subst hk0
    subst hm0
    clear hk
    have HG := Lib.hid (Nat.gcd_zero_left n)
    go_enter Try.func40, Try.ntmps40
    go_wp2
    go_ret
    exact ⟨_, rfl, by rw [HG.out]; exact hb, Below.refl _ _⟩
  · have hkb : ((k : Int) == 0) = false := by
      rw [beq_eq_false_iff_ne]; intro hc; exact hm0 (hk.1 (by omega))
    obtain ⟨ao2, k2, cap2, rfl, hj, hj2⟩ := hb.slice
    by_cases hn0 : n = 0
    · have hk0 := hj.2 hn0
      subst hk0
      subst hn0
      clear hk hj
      have HG := Lib.hid (Nat.gcd_zero_right m)
      go_enter Try.func40, Try.ntmps40
      go_wp2
      go_ret
      exact ⟨_, rfl, by rw [HG.out]; exact ha, Below.refl _ _⟩
    · have hjb : ((k2 : Int) == 0) = false := by
        rw [beq_eq_false_iff_ne]; intro hc; exact hn0 (hj.1 (by omega))
      clear hk hj
      have HM := Lib.hid hm
      have HN := Lib.hid hn
      have hm1 : 0 < m := by omega
      have hn1 : 0 < n := by omega
      have HGL : Hid (Nat.gcd m n < P2 L) := Lib.hid (Nat.lt_of_le_of_lt (Nat.le_of_dvd hm1 (Nat.gcd_dvd_left m n)) hm)
      generalize hgg : Nat.gcd m n = G at *
      have HGG := Lib.hid hgg
      clear hgg hm hn hm0 hn0
      go_enter Try.func40, Try.ntmps40
      go_wp2
      go_loopg [0, 1, 5] m (fun g a b kk wr => ∃ (q t : Nat), kk = .int .i64 t ∧ t ≤ L ∧ IsR wr a g ∧ IsR wr b q ∧ 0 < g ∧ 0 < q ∧ Hid (g < P2 L ∧ q < P2 L) ∧ Hid (P2 t * Nat.gcd g q = G) ∧ Below w.heap.size w wr)
      case atStart => exact ⟨n, 0, rfl, Nat.zero_le _, ha, hb, hm1, hn1, Lib.hid ⟨HM.out, HN.out⟩, Lib.hid (by rw [HGG.out]; exact Nat.one_mul _), Below.refl _ _⟩
      case round =>
        obtain ⟨q, t, rfl, htL, ia, ib, hg0, hq0, hbd, hgc, hB⟩ := hrel
        clear ha hb hkb hjb
        obtain ⟨b1, o1, k1, c1, x, rfl, hk1, hk1b, hc1, hx, hxp⟩ := ia.first hg0
        obtain ⟨b2, o2, k2, c2, y, rfl, hk2, hk2b, hc2, hy, hyp⟩ := ib.first hq0
        by_cases hev : gk % 2 = 0 ∧ q % 2 = 0
        · have t1 : ((x : Int) % 2 == 0) = true := by rw [beq_iff_eq]; omega
          have t2 : ((y : Int) % 2 == 0) = true := by rw [beq_iff_eq]; omega
          have hp1 : 0 < gk / 2 := by omega
          have hp2 : 0 < q / 2 := by omega
          have HC2 : Hid (P2 (t + 1) * Nat.gcd (gk / 2) (q / 2) = G) := Lib.hid (by
            rw [← hgc.out, P2_succ, ← gcd_two hev.1 hev.2, Nat.mul_comm 2, Nat.mul_assoc])
          have htL1 : t + 1 ≤ L := by
            have h1 : P2 (t + 1) ≤ G := by
              rw [← HC2.out]; exact Nat.le_mul_of_pos_right _ (Nat.gcd_pos_of_pos_left _ hp1)
            have := P2_lt (Nat.lt_of_le_of_lt h1 HGL.out)
            omega
          have HB2 : Hid (gk / 2 < P2 L ∧ q / 2 < P2 L) := Lib.hid (by have := hbd.out; omega)
          have hlt2 : gk / 2 < gk := by omega
          clear hev hxp hyp
          go_wp2_with fail
          refine (shrR_any ia 1 (by omega) L (by omega) hbd.out.1).mono ?_
          rintro e w2 ⟨v2, rfl, i2, bb⟩
          replace ib := ib.below bb
          replace hB := nextB hB bb
          rw [P2_one] at i2
          clear bb ia hc1 hc2
          go_wp2_with fail
          refine (shrR_any ib 1 (by omega) L (by omega) hbd.out.2).mono ?_
          rintro e w3 ⟨v3, rfl, i3, bb⟩
          replace i2 := i2.below bb
          replace hB := nextB hB bb
          rw [P2_one] at i3
          clear bb ib
          go_wp2
          go_roundg (gk / 2)
          case measure => exact hlt2
          case rel => exact ⟨q / 2, t + 1, by go_num, htL1, i2, i3, hp1, hp2, HB2, HC2, hB⟩
        · have hodd : gk % 2 = 1 ∨ q % 2 = 1 := by omega
          have hcase : (((x : Int) % 2 == 0) = false) ∨ (((x : Int) % 2 == 0) = true ∧ ((y : Int) % 2 == 0) = false) := by
            by_cases h : gk % 2 = 0
            · exact .inr ⟨by rw [beq_iff_eq]; omega, by rw [beq_eq_false_iff_ne]; omega⟩
            · exact .inl (by rw [beq_eq_false_iff_ne]; omega)
          have HO := Lib.hid hodd
          have HGK := Lib.hid (show gk = gk + q - q by omega)
          clear hev hodd hxp hyp
          rcases hcase with hcase | ⟨hcase, hcase2⟩
          all_goals
            obtain ⟨wo, hwo⟩ : ∃ wo : World, wo = wr := ⟨_, rfl⟩
            rw [← hwo] at ia ib hB hc1 hc2 ⊢
            clear hwo
            go_wp2
            clear hc1 hc2
            go_loopg [0, 1] (gk + q) (fun g a b wr => ∃ (p r : Nat), Hid (g = p + r) ∧ IsR wr a p ∧ IsR wr b r ∧ 0 < r ∧ Hid (p < P2 L ∧ r < P2 L) ∧ Hid (P2 t * Nat.gcd p r = G) ∧ Hid (p % 2 = 1 ∨ r % 2 = 1) ∧ Below w.heap.size w wr)
            case atStart => exact ⟨gk, q, Lib.hid rfl, ia, ib, hq0, hbd, hgc, HO, hB⟩
            case round =>
              obtain ⟨p, r, hgs, ja, jb, hr0, hbd2, hgc2, hod, hB2⟩ := hrel
              clear ia ib hB hbd hgc
              obtain ⟨a1, s1, d1, rfl, hd1, hd1b⟩ := ja.slice
              by_cases hp0 : p = 0
              · have hd0 := hd1.2 hp0
                subst hd0
                have HF : Hid (r * P2 t = G) := Lib.hid (by
                  have := hgc2.out
                  rw [hp0, Nat.gcd_zero_left, Nat.mul_comm] at this
                  exact this)
                clear hd1
                go_wp2_with fail
                refine (shlR_any jb t (by omega) L (by omega) hbd2.out.2).mono ?_
                rintro e w2 ⟨v2, rfl, i2, bb⟩
                rw [HF.out] at i2
                go_wp2
                go_ret
                exact ⟨_, rfl, i2, nextB hB2 bb⟩
              · have hp1 : 0 < p := by omega
                have hd0 : 0 < s1 := Nat.pos_of_ne_zero fun h => hp0 (hd1.1 h)
                clear hd1
                obtain ⟨wo, hwo⟩ : ∃ wo : World, wo = wr := ⟨_, rfl⟩
                rw [← hwo] at ja jb hB2 ⊢
                clear hwo
                go_wp2
                go_loopg [0] p (fun g a wr => IsR wr a g ∧ 0 < g ∧ Hid (g ≤ p) ∧ Hid (Nat.gcd g r = Nat.gcd p r) ∧ Hid (g % 2 = 1 ∨ r % 2 = 1) ∧ Below wo.heap.size wo wr)
                case atStart => exact ⟨ja, hp1, Lib.hid (Nat.le_refl _), Lib.hid rfl, hod, Below.refl _ _⟩
                case round =>
                  obtain ⟨ka, hg0, hgp, hgg, hgo, hB3⟩ := hrel
                  obtain ⟨b1, o1, k1, c1, x, rfl, hk1, hk1b, hc1, hx, hxp⟩ := ka.first hg0
                  have hszo := hB3.size
                  have hgL : Hid (gk < P2 L) := Lib.hid (Nat.lt_of_le_of_lt hgp.out hbd2.out.1)
                  by_cases hev : gk % 2 = 0
                  · have t1 : ((x : Int) % 2 == 0) = true := by rw [beq_iff_eq]; omega
                    have hr1 : r % 2 = 1 := by have := hgo.out; omega
                    have HC2 : Hid (Nat.gcd (gk / 2) r = Nat.gcd p r) := Lib.hid (by rw [gcd_half hev hr1, hgg.out])
                    have HO2 : Hid (gk / 2 % 2 = 1 ∨ r % 2 = 1) := Lib.hid (.inr hr1)
                    have HP2 : Hid (gk / 2 ≤ p) := Lib.hid (by have := hgp.out; omega)
                    have hp2 : 0 < gk / 2 := by omega
                    have hlt2 : gk / 2 < gk := by omega
                    clear hev hxp hr1
                    go_wp2_with fail
                    refine (shrR_any ka 1 (by omega) L (by omega) hgL.out).mono ?_
                    rintro e w2 ⟨v2, rfl, i2, bb⟩
                    rw [P2_one] at i2
                    go_wp2
                    go_roundg (gk / 2)
                    case measure => exact hlt2
                    case rel => exact ⟨i2, hp2, HP2, HC2, HO2, nextB hB3 bb⟩
                  · have t1 : ((x : Int) % 2 == 0) = false := by rw [beq_eq_false_iff_ne]; omega
                    obtain ⟨p1, hp1e⟩ : ∃ p1, p1 = gk := ⟨_, rfl⟩
                    have hpo : Hid (p1 % 2 = 1) := Lib.hid (by omega)
                    rw [← hp1e] at ka hg0 hgp hgg hgL
                    clear hev hxp hp1e hgo
                    obtain ⟨wp, hwp⟩ : ∃ wp : World, wp = wr := ⟨_, rfl⟩
                    have jb2 := jb.below hB3
                    rw [← hwp] at ka jb2 hB3 hc1 hszo ⊢
                    clear hwp
                    go_wp2
                    clear hc1
                    go_loopg [1] r (fun g b wr => IsR wr b g ∧ 0 < g ∧ Hid (g ≤ r) ∧ Hid (Nat.gcd p1 g = Nat.gcd p r) ∧ Below wp.heap.size wp wr)
                    case atStart => exact ⟨jb2, hr0, Lib.hid (Nat.le_refl _), hgg, Below.refl _ _⟩
                    case round =>
                      obtain ⟨kb, hg1, hgr, hgg3, hB4⟩ := hrel
                      obtain ⟨b2, o2, k2, c2, y, rfl, hk2, hk2b, hc2, hy, hyp⟩ := kb.first hg1
                      have ka2 := ka.below hB4
                      have hB5 := nextB (nextB hB2 hB3) hB4
                      have hgR : Hid (gk < P2 L) := Lib.hid (Nat.lt_of_le_of_lt hgr.out hbd2.out.2)
                      by_cases hev : gk % 2 = 0
                      · have t1 : ((y : Int) % 2 == 0) = true := by rw [beq_iff_eq]; omega
                        have HC2 : Hid (Nat.gcd p1 (gk / 2) = Nat.gcd p r) := Lib.hid (by rw [gcd_half' hpo.out hev, hgg3.out])
                        have HP2 : Hid (gk / 2 ≤ r) := Lib.hid (by have := hgr.out; omega)
                        have hp2 : 0 < gk / 2 := by omega
                        have hlt2 : gk / 2 < gk := by omega
                        clear hev hyp
                        go_wp2_with fail
                        refine (shrR_any kb 1 (by omega) L (by omega) hgR.out).mono ?_
                        rintro e w2 ⟨v2, rfl, i2, bb⟩
                        rw [P2_one] at i2
                        go_wp2
                        go_roundg (gk / 2)
                        case measure => exact hlt2
                        case rel => exact ⟨i2, hp2, HP2, HC2, nextB hB4 bb⟩
                      · have t1 : ((y : Int) % 2 == 0) = false := by rw [beq_eq_false_iff_ne]; omega
                        obtain ⟨r1, hr1e⟩ : ∃ r1, r1 = gk := ⟨_, rfl⟩
                        have hro : Hid (r1 % 2 = 1) := Lib.hid (by omega)
                        rw [← hr1e] at kb hg1 hgr hgg3 hgR
                        clear hev hyp hr1e hB3 hB4 jb ja
                        go_wp2_with fail
                        refine (cmpR_any ka2 kb).mono ?_
                        rintro e w2 ⟨rfl, bb⟩
                        replace ka2 := ka2.below bb
                        replace kb := kb.below bb
                        replace hB5 := nextB hB5 bb
                        clear bb ka hc2
                        by_cases hle : r1 ≤ p1
                        · have hz := cmpI_ge hle
                          have HLE := Lib.hid hle
                          have HC2 : Hid (P2 t * Nat.gcd (p1 - r1) r1 = G) := Lib.hid (by rw [gcd_subl hle, hgg3.out, hgc2.out])
                          have HO2 : Hid ((p1 - r1) % 2 = 1 ∨ r1 % 2 = 1) := Lib.hid (.inr hro.out)
                          have HL2 : Hid (p1 - r1 < P2 L ∧ r1 < P2 L) := Lib.hid (by have h1 := hgL.out; have h2 := hgR.out; omega)
                          have HD : Hid (p1 - r1 + r1 < p + r) := Lib.hid (by have h1 := hgp.out; have h2 := hgr.out; omega)
                          clear hle
                          generalize cmpI p1 r1 = z at hz ⊢
                          have hd : decide ((0 : Int) ≤ z) = true := decide_eq_true hz
                          go_wp2_with fail
                          refine (subR_any ka2 kb L (by omega) hgL.out HLE.out).mono ?_
                          rintro e w3 ⟨v3, rfl, i3, bb⟩
                          replace kb := kb.below bb
                          replace hB5 := nextB hB5 bb
                          go_wp2
                          go_roundg (p1 - r1 + r1)
                          case measure => rw [hgs.out]; exact HD.out
                          case rel => exact ⟨_, _, Lib.hid rfl, i3, kb, hg1, HL2, HC2, HO2, hB5⟩
                        · have hlt : p1 < r1 := by omega
                          have hz := cmpI_lt hlt
                          have HLE := Lib.hid (Nat.le_of_lt hlt)
                          have HC2 : Hid (P2 t * Nat.gcd p1 (r1 - p1) = G) := Lib.hid (by rw [gcd_subr (Nat.le_of_lt hlt), hgg3.out, hgc2.out])
                          have HO2 : Hid (p1 % 2 = 1 ∨ (r1 - p1) % 2 = 1) := Lib.hid (.inl hpo.out)
                          have HL2 : Hid (p1 < P2 L ∧ r1 - p1 < P2 L) := Lib.hid (by have h1 := hgL.out; have h2 := hgR.out; omega)
                          have HD : Hid (p1 + (r1 - p1) < p + r) := Lib.hid (by have h1 := hgp.out; have h2 := hgr.out; omega)
                          have hpos : 0 < r1 - p1 := by omega
                          rw [hz]
                          clear hle hlt hz
                          go_wp2_with fail
                          refine (subR_any kb ka2 L (by omega) hgR.out HLE.out).mono ?_
                          rintro e w3 ⟨v3, rfl, i3, bb⟩
                          replace ka2 := ka2.below bb
                          replace hB5 := nextB hB5 bb
                          go_wp2
                          go_roundg (p1 + (r1 - p1))
                          case measure => rw [hgs.out]; exact HD.out
                          case rel => exact ⟨_, _, Lib.hid rfl, ka2, i3, hpos, HL2, HC2, HO2, hB5⟩

end Go.Proofs.Ytppbhjhbaknidaa

/-
  The contract of the specification's DivMod, bit by bit. Condition: numbers of at most 2^29 bits.
-/
set_option linter.unusedVariables false
set_option linter.unusedSimpArgs false
namespace Go.Proofs.Ytppbhjhbaknidaa
open Go.RowKit

def RetRR (w : World) (m n : Nat) (e : Ending) (w' : World) : Prop := ∃ v1 v2, e = .returned (.tuple #[v1, v2]) ∧ IsR w' v1 m ∧ IsR w' v2 n ∧ Below w.heap.size w w'

/-- A number of the specification's in a block of the call's own. -/
def RetRF (w : World) (n : Nat) (e : Ending) (w' : World) : Prop := ∃ v, e = .returned v ∧ IsR w' v n ∧ Below w.heap.size w w' ∧ (∀ k, v.ownBlock = some k → w.heap.size ≤ k)

theorem trim_row {w : World} {B : Nat} {v : Value} {xs : List Nat} (h : Row w B .i64 3 v xs) (hm : xs.length ≤ 1099511627776) (hd : Dg 65536 xs) :
    Calls Try.prog 105 #[v] w fun e w' => ∃ v', e = .returned v' ∧ IsR w v' (val 65536 xs) ∧ w' = w ∧ (∀ k, v'.ownBlock = some k → B ≤ k) := by
  have hlt := h.lt
  obtain ⟨ao, n, cap, b, off, rfl, hs⟩ := h.sl hm hd.wf16
  refine (trim_val hs).mono ?_
  rintro e w' ⟨rfl, rfl⟩
  have ht := trim_spec xs
  rw [hs.len] at ht
  have := (hs.head ht.1).sl
  rw [← ht.2] at this
  refine ⟨_, rfl, ⟨_, this, hd.can, val_trim _ _⟩, rfl, fun k hk => (hlt k ?_).1⟩
  cases ao with
  | none => cases hk
  | some a => exact hk

set_option maxHeartbeats 1000000 in
theorem subR_own {w : World} {va vb : Value} {m n : Nat} (ha : IsR w va m) (hb : IsR w vb n) (L : Nat) (hL : L ≤ 8589934592) (hm : m < P2 L) (hmn : n ≤ m) :
    Calls Try.prog 57 #[va, vb] w (RetRF w (m - n)) := by
  obtain ⟨xs, ha, hca, rfl⟩ := ha
  obtain ⟨ys, hb, hcb, rfl⟩ := hb
  have l1 := hca.len_R hm
  have l2 : ys.length ≤ xs.length := hcb.len_le (by omega) (Nat.lt_of_le_of_lt hmn (val_lt hca.1))
  have ha' := id ha
  have hb' := id hb
  obtain ⟨ao, n, cap, b, off, rfl, hs⟩ := ha
  obtain ⟨ao2, n2, cap2, b2, off2, rfl, hs2⟩ := hb
  have E1 := Lib.hid hs.len
  have E2 := Lib.hid hs2.len
  rw [E1.out] at l1 l2
  rw [E2.out] at l2
  have HM := Lib.hid hmn
  clear hm hmn
  go_enter Try.func57, Try.ntmps57
  go_wp2
  go_loopw [5, 6, 7, 8] (fun o c i _ wr => ∃ (k cc : Nat) (zs : List Nat), i = .int .i64 k ∧ c = .int .i64 cc ∧ k ≤ n ∧ SubR xs ys zs k cc ∧ Row wr w.heap.size .i64 3 o zs ∧ Below w.heap.size w wr)
    (fun _ _ i _ _ => n - (intOf i).toNat)
  case atStart => exact ⟨0, 0, [], rfl, rfl, by omega, ⟨rfl, Dg.nil _, by omega, by simp [val]⟩, Row.nil _ _ _ _, Below.refl _ _⟩
  case round =>
    obtain ⟨k, cc, zs, rfl, rfl, hk, hinv, hrow, hbel⟩ := hrel
    have hsz := hbel.size
    have hcar := hinv.car
    have hzl : zs.length < 1099511627776 := by rw [hinv.len]; omega
    by_cases hlt : k < n
    · have hx := hca.1.nth (by omega) k
      have hy := hcb.1.nth (by omega) k
      obtain rfl := hs.addr.resolve_right (by omega)
      have hc1 : wr.cell? ⟨b, off + k, none⟩ = some (.int .i64 (nth xs k)) := by
        rw [hbel.cell (p := ⟨b, off + k, none⟩) (hs.lt (by omega))]; exact hs.cells k hlt
      have B2 := at_part (hb'.below hbel) k (by omega)
      have HI := Lib.hid (fun d c' => hinv.step (d := d) (c' := c'))
      generalize hgx : nth xs k = x at *
      generalize hgy : nth ys k = y at *
      clear hgx hgy
      by_cases hneg : x < y + cc
      · have t1 : decide ((x : Int) - y - cc < 0) = true := decide_eq_true (by omega)
        go_wp2
        go_quiet ((go_at_call 104; (with_reducible refine Calls.quiet_of_same (B2.out _ ?_)); rfl))
        go_wp2_with (at_builtin; go_loud (refine wpList_append_row _ rfl _ _ 29 rfl w.heap.size 3 .i64 8 Try.underlying29 (by kernel_rfl) (by omega) _ zs _ (x + 65536 - y - cc) (by rfl) (hrow.keep (below_drewN' (Below.refl _ _) _) (Nat.le_refl _)) (by rfl) (by first | rfl | omega) hzl hsz ?_; intro v' w' hrow' hbel' _))
        go_roundw
        case rel => exact ⟨k + 1, 1, _, by go_num, by go_num, by omega, HI.out _ _ (by omega) (by omega) (by omega), hrow', (below_drewN' hbel _).trans hbel'⟩
        case measure => simp [intOf]; omega
      · have t1 : decide ((x : Int) - y - cc < 0) = false := decide_eq_false (by omega)
        go_wp2
        go_quiet ((go_at_call 104; (with_reducible refine Calls.quiet_of_same (B2.out _ ?_)); rfl))
        go_wp2_with (at_builtin; go_loud (refine wpList_append_row _ rfl _ _ 29 rfl w.heap.size 3 .i64 8 Try.underlying29 (by kernel_rfl) (by omega) _ zs _ (x - y - cc) (by rfl) (hrow.keep (below_drewN' (Below.refl _ _) _) (Nat.le_refl _)) (by rfl) (by first | rfl | omega) hzl hsz ?_; intro v' w' hrow' hbel' _))
        go_roundw
        case rel => exact ⟨k + 1, 0, _, by go_num, by go_num, by omega, HI.out _ _ (by omega) (by omega) (by omega), hrow', (below_drewN' hbel _).trans hbel'⟩
        case measure => simp [intOf]; omega
    · obtain rfl : k = n := by omega
      have HF := Lib.hid (hinv.done E1.out (by rw [E2.out]; omega) HM.out)
      go_wp2_with fail
      refine (trim_row hrow (by omega) hinv.dg).mono ?_
      rintro e w2 ⟨v, rfl, hv, hw, hfr⟩
      subst hw
      rw [HF.out] at hv
      go_wp2
      go_ret
      exact ⟨_, rfl, hv, hbel, hfr⟩

theorem bits_step (A t : Nat) : A / P2 t = 2 * (A / P2 (t + 1)) + bitAt A t := by
  unfold bitAt
  rw [P2_succ, Nat.mul_comm 2 (P2 t), ← Nat.div_div_eq_div_mul]
  omega

theorem IsR.setAway {w : World} {v : Value} {n R : Nat} (h : IsR w v n) (hne : ∀ g, v.ownBlock = some g → g ≠ R) (i : Nat) (u : Value) : IsR (w.drew.setCell ⟨R, i, none⟩ u) v n := by
  obtain ⟨xs, ⟨ao, k, cap, b, off, rfl, hs⟩, hc, hv⟩ := h
  refine ⟨xs, ?_, hc, hv⟩
  by_cases h0 : 0 < k
  · obtain rfl := hs.addr.resolve_right (by omega)
    have hs2 : SlAt w.drew .i64 (some ⟨b, off, none⟩) k cap b off xs := hs.heap rfl
    exact (hs2.setOther i u (hne b rfl)).sl
  · exact ⟨ao, k, cap, b, off, rfl, { hs with cells := fun j hj => by omega }⟩

/-- The quotient's digits so far. -/
structure DivRI (A B : Nat) (qs : List Nat) (N j : Nat) : Prop where
  len : qs.length = N
  dg : Dg 65536 qs
  eq : val 65536 qs = A / P2 j / B * P2 j

theorem div_two_add {X B c : Nat} (hB : 0 < B) (hc : c < 2) :
    (2 * (X % B) + c < B → (2 * X + c) / B = 2 * (X / B) ∧ (2 * X + c) % B = 2 * (X % B) + c) ∧
    (B ≤ 2 * (X % B) + c → (2 * X + c) / B = 2 * (X / B) + 1 ∧ (2 * X + c) % B = 2 * (X % B) + c - B) := by
  have e := Nat.mod_add_div X B
  have h := Nat.mod_lt X hB
  generalize X % B = r at *
  generalize X / B = q at *
  have e2 : 2 * X + c = (2 * r + c) + B * (2 * q) := by
    rw [← e, Nat.mul_add, Nat.mul_left_comm B 2 q]; omega
  rw [e2]
  refine ⟨fun h1 => ?_, fun h1 => ?_⟩
  · rw [Nat.add_mul_div_left _ _ hB, Nat.add_mul_mod_self_left, Nat.div_eq_of_lt h1, Nat.mod_eq_of_lt h1]
    exact ⟨by omega, rfl⟩
  · have e3 : 2 * r + c + B * (2 * q) = (2 * r + c - B) + B * (2 * q + 1) := by
      rw [Nat.mul_add B (2 * q) 1]; omega
    have h2 : 2 * r + c - B < B := by omega
    rw [e3, Nat.add_mul_div_left _ _ hB, Nat.add_mul_mod_self_left, Nat.div_eq_of_lt h2, Nat.mod_eq_of_lt h2]
    exact ⟨by omega, rfl⟩

theorem DivRI.keep {A B : Nat} {qs : List Nat} {N t : Nat} (h : DivRI A B qs N (t + 1)) (he : A / P2 t / B = 2 * (A / P2 (t + 1) / B)) : DivRI A B qs N t :=
  ⟨h.len, h.dg, by
    rw [h.eq, he]
    generalize A / P2 (t + 1) / B = q
    rw [P2_succ, Nat.mul_comm 2 q, Nat.mul_assoc]⟩

theorem top_room {Y s : Nat} (hs : s < 16) : Y * 2 ^ (s + 1) % 65536 + 2 ^ s < 65536 := by
  have h2 : 65536 = 2 ^ (s + 1) * 2 ^ (15 - s) := by rw [← Nat.pow_add, show s + 1 + (15 - s) = 16 by omega]
  have h3 : Y * 2 ^ (s + 1) % 65536 = 2 ^ (s + 1) * (Y % 2 ^ (15 - s)) := by
    rw [h2, Nat.mul_comm Y, Nat.mul_mod_mul_left]
  have h4 : Y % 2 ^ (15 - s) < 2 ^ (15 - s) := Nat.mod_lt _ (Nat.pow_pos (by omega))
  have h5 : 2 ^ (s + 1) * (Y % 2 ^ (15 - s) + 1) ≤ 2 ^ (s + 1) * 2 ^ (15 - s) := Nat.mul_le_mul_left _ h4
  rw [h3]
  rw [← h2, Nat.mul_add, Nat.mul_one] at h5
  have h6 : 0 < 2 ^ s := Nat.pow_pos (by omega)
  rw [Nat.pow_succ] at *
  omega

theorem DivRI.set {A B : Nat} {qs : List Nat} {N t : Nat} (h : DivRI A B qs N (t + 1)) (he : A / P2 t / B = 2 * (A / P2 (t + 1) / B) + 1) (ht : t / 16 < N) :
    DivRI A B (qs.set (t / 16) (nth qs (t / 16) + 2 ^ (t % 16))) N t ∧ nth qs (t / 16) + 2 ^ (t % 16) < 65536 := by
  have hd : nth qs (t / 16) + 2 ^ (t % 16) < 65536 := by
    rw [nth_digit h.dg, h.eq]
    have e : A / P2 (t + 1) / B * P2 (t + 1) = 65536 ^ (t / 16) * (A / P2 (t + 1) / B * 2 ^ (t % 16 + 1)) := by
      rw [P2_succ, ← P2_split t, Nat.pow_succ]
      simp only [Nat.mul_comm, Nat.mul_left_comm, Nat.mul_assoc]
    rw [e, Nat.mul_div_cancel_left _ (Nat.pow_pos (by omega))]
    exact top_room (by omega)
  refine ⟨⟨by rw [List.length_set, h.len], h.dg.set _ hd, ?_⟩, hd⟩
  have e := val_set 65536 qs (t / 16) (nth qs (t / 16) + 2 ^ (t % 16)) (by rw [h.len]; exact ht)
  rw [Nat.mul_add, P2_split] at e
  have e5 := h.eq
  rw [he]
  generalize A / P2 (t + 1) / B = q at *
  rw [P2_succ] at e5
  rw [Nat.add_mul, Nat.one_mul, Nat.mul_assoc, Nat.mul_left_comm 2 q, ← e5]
  omega

set_option maxHeartbeats 4000000 in
set_option maxRecDepth 100000 in
theorem divModR_any {w : World} {va vb : Value} {m n : Nat} (ha : IsR w va m) (hb : IsR w vb n) (hn0 : 0 < n) (L : Nat) (hL : L ≤ 536870912) (hm : m < P2 L) (hn : n < P2 L) :
    Calls Try.prog 59 #[va, vb] w (RetRR w (m / n) (m % n)) := by
  obtain ⟨ys, hb', hcb, hvb⟩ := id hb
  obtain ⟨xs, ha', hca, rfl⟩ := id ha
  have l1 := hca.len_R hm
  have hv := val_lt hca.1
  rw [P2_16] at hv
  obtain ⟨ao, N, cap, b, off, rfl, hs⟩ := ha'
  rw [hs.len] at l1 hv
  have hN : N ≤ 60000000 := by omega
  have hbl : blen (val 65536 xs) ≤ 16 * N := blen_le.2 hv
  have hbl0 : val 65536 xs < P2 (blen (val 65536 xs)) := lt_blen
  have HM := Lib.hid hm
  have HN := Lib.hid hn
  have hlL : n < P2 (L + 1) := lt_P2_mono hn (by omega)
  have HNL := Lib.hid hlL
  clear hm hn hv hlL hs hb' hcb hca hvb ys
  generalize hA : val 65536 xs = A at *
  clear hA
  have HA0 : Hid (A / P2 (blen A) / n = 0 ∧ A / P2 (blen A) % n = 0) := Lib.hid (by
    rw [Nat.div_eq_of_lt hbl0, Nat.zero_div, Nat.zero_mod]; exact ⟨rfl, rfl⟩)
  generalize hbb : blen A = bl at *
  have HBB := Lib.hid hbb
  clear hbb hbl0
  have hone : 1 < P2 (L + 1) := by rw [P2_succ]; have := P2_pos L; omega
  have HONE := Lib.hid hone
  clear hone
  go_enter Try.func59, Try.ntmps59
  go_wp2_with (first | (at_make; refine wpList_make_nums _ rfl _ _ 29 rfl 3 .i64 8 Try.underlying29 (by kernel_rfl) .i64 .i64 _ _ N rfl rfl rfl rfl (by omega) (by omega) ?_; intro w1 hown hbel) | fail)
  refine (bitLenR_any (ha.below hbel)).mono ?_
  rintro e wq ⟨rfl, hw⟩
  subst hw
  rw [HBB.out]
  go_wp2
  go_loopw [7, 8] (fun rv i wr => ∃ (j : Nat) (qs : List Nat), i = .int .i64 ((j : Int) - 1) ∧ j ≤ bl ∧ Own wr .i64 3 w.heap.size qs ∧ Hid (DivRI A n qs N j) ∧ IsR wr rv (A / P2 j % n) ∧ Below w.heap.size w wr) (fun _ i _ => (intOf i + 1).toNat)
  case atStart => exact ⟨bl, List.replicate N 0, rfl, Nat.le_refl _, hown, Lib.hid ⟨by simp, Dg.zeros (by omega) _, by rw [val_zeros, HA0.out.1, Nat.zero_mul]⟩, by rw [HA0.out.2]; exact IsR.zero _, hbel⟩
  case round =>
    obtain ⟨j, qs, rfl, hj, hown1, hinv, ir, hB⟩ := hrel
    clear hown hbel
    have hsz := hB.size
    by_cases hj0 : j = 0
    · subst hj0
      have HV : Hid (val 65536 qs = A / n) := Lib.hid (by
        have := hinv.out.eq
        rw [show P2 0 = 1 from rfl, Nat.div_one, Nat.mul_one] at this; exact this)
      have HR : Hid (A / P2 0 % n = A % n) := Lib.hid (by rw [show P2 0 = 1 from rfl, Nat.div_one])
      have hd0 : decide ((0 : Int) ≤ ((0 : Nat) : Int) - 1) = false := rfl
      go_wp2_with fail
      refine (trim_own hown1 (n := N) hinv.out.len (by omega) hinv.out.dg).mono ?_
      rintro e w2 ⟨v, rfl, hvb, hv, rfl⟩
      rw [HV.out] at hv
      rw [HR.out] at ir
      go_wp2
      go_ret2
      exact ⟨_, _, rfl, hv, ir, hB⟩
    · obtain ⟨t, rfl⟩ : ∃ t, j = t + 1 := ⟨j - 1, by omega⟩
      rw [show ((t + 1 : Nat) : Int) - 1 = (t : Int) by omega]
      have htN : t / 16 < N := by omega
      have HS := Lib.hid (bits_step A t)
      have hbt := bitAt_lt A t
      have hr0 : A / P2 (t + 1) % n < n := Nat.mod_lt _ hn0
      have HD := Lib.hid (div_two_add (X := A / P2 (t + 1)) hn0 hbt)
      rw [← HS.out] at HD
      obtain ⟨wo, hwo⟩ : ∃ wo : World, wo = wr := ⟨_, rfl⟩
      rw [← hwo] at hown1 ir hB hsz ⊢
      clear hwo
      go_wp2_with fail
      refine (shlR_any ir 1 (by omega) (L + 1) (by omega) (Nat.lt_trans hr0 HNL.out)).mono ?_
      rintro e w2 ⟨v2, rfl, i2, bb⟩
      rw [P2_one] at i2
      have hB2 := nextB hB bb
      have hown2 := hown1.below bb hown1.lt
      clear bb
      go_wp2_with fail
      refine (bitR_any (ha.below hB2) t (by omega) L (by omega) HM.out).mono ?_
      rintro e w3 ⟨rfl, nd, rfl⟩
      generalize hgb : bitAt A t = bit at *
      generalize hgr : A / P2 (t + 1) % n = r at *
      have hown3 : Own (w2.drewN nd) .i64 3 w.heap.size qs := hown2
      have i3 : IsR (w2.drewN nd) v2 (r * 2) := i2.below (below_drewN' (Below.refl _ _) nd)
      have hB3 : Below w.heap.size w (w2.drewN nd) := below_drewN' hB2 nd
      clear hown2 i2 hB2
      generalize w2.drewN nd = w4 at *
      have hcase : bit = 0 ∨ bit = 1 := by omega
      have HRL : Hid (r * 2 + bit < P2 (L + 1)) := Lib.hid (by have h1 := HN.out; rw [P2_succ]; omega)
      have HRL2 : Hid (r * 2 < P2 (L + 1)) := Lib.hid (by have h1 := HN.out; rw [P2_succ]; omega)
      have HSX := Lib.hid (show 2 * r + bit = r * 2 + bit by omega)
      rw [HSX.out] at HD
      have HZ := Lib.hid hcase
      rcases hcase with hb0 | hb1
      rotate_left
      · subst hb1
        go_wp2_with fail
        refine (of_any 1 (by omega) _).mono ?_
        rintro e w5 ⟨v5, rfl, i5, bb⟩
        replace hB3 := nextB hB3 bb
        replace hown3 := hown3.below bb hown3.lt
        replace i3 := i3.below bb
        clear bb
        go_wp2_with fail
        refine (addR_any i3 i5 (L + 1) (by omega) HRL2.out HONE.out).mono ?_
        rintro e w6 ⟨v6, rfl, i6, bb⟩
        replace hB3 := nextB hB3 bb
        replace hown3 := hown3.below bb hown3.lt
        clear bb i3 i5
        have hb6 := hb.below hB3
        go_wp2_with fail
        refine (cmpR_any i6 hb6).mono ?_
        rintro e w7 ⟨rfl, bb⟩
        replace hB3 := nextB hB3 bb
        replace hown3 := hown3.below bb hown3.lt
        replace i6 := i6.below bb
        replace hb6 := hb6.below bb
        clear bb
        by_cases hge : n ≤ r * 2 + 1
        · have HDV := Lib.hid (HD.out.2 hge)
          have hz := cmpI_ge hge
          have HGE := Lib.hid hge
          clear hge
          generalize cmpI (r * 2 + 1) n = z at hz ⊢
          have hd : decide ((0 : Int) ≤ z) = true := decide_eq_true hz
          go_wp2_with fail
          refine (subR_own i6 hb6 (L + 1) (by omega) HRL.out HGE.out).mono ?_
          have hownlt := hown3.lt
          rintro e w8 ⟨v8, rfl, i8, bb, hfr⟩
          replace hB3 := nextB hB3 bb
          replace hown3 := hown3.below bb hown3.lt
          have hne : ∀ g, v8.ownBlock = some g → g ≠ w.heap.size := fun g hg hc => by have h1 := hfr g hg; have h2 := hownlt; omega
          clear bb i6 hb6 hfr hownlt
          have HSET := Lib.hid (hinv.out.set HDV.out.1 htN)
          have hcell := hown3.cell (i := t / 16) (by rw [hinv.out.len]; exact htN)
          have hfr := hown3.frozen (t / 16)
          have hx := hinv.out.dg.nth (by omega) (t / 16)
          have hq := pow_small (show t % 16 < 16 by omega)
          have HW := Lib.hid (fun w0 => power_any (t % 16) (by omega) w0)
          have hownd : Own w8.drew .i64 3 w.heap.size qs := hown3
          have e1 : Int.tdiv (t : Int) 16 = ((t / 16 : Nat) : Int) := rfl
          have e2 : Int.tmod (t : Int) 16 = ((t % 16 : Nat) : Int) := rfl
          have e3 : (t : Int) / 16 = ((t / 16 : Nat) : Int) := rfl
          have e4 : (t : Int) % 16 = ((t % 16 : Nat) : Int) := rfl
          generalize 2 ^ (t % 16) = qq at *
          generalize t % 16 = s at *
          generalize t / 16 = k at *
          generalize nth qs k = x at *
          obtain ⟨hq1, hq2⟩ := hq
          have W1 : IntKind.i64.wrap (k : Int) = (k : Int) := IntWalk.i64_in _ (by omega)
          have W2 : IntKind.i64.wrap (s : Int) = (s : Int) := IntWalk.i64_in _ (by omega)
          have W3 : IntKind.i64.wrap ((x : Int) + (qq : Int)) = (x : Int) + (qq : Int) := IntWalk.i64_in _ (by omega)
          have hkN : (k : Int) < (N : Int) := by omega
          clear hz hd hj0
          go_wp2_with fail
          refine wp_region_still_tail 10 (by kernel_rfl) (by kernel_rfl) ?_
          simp only [List.take_succ_cons, List.take_zero, List.drop_succ_cons, List.drop_zero]
          still_step
          still_step
          still_step
          still_step
          still_step
          still_step
          still_step
          still_call (HW.out _)
          still_step
          still_step
          refine wpStill_nil ?_
          clear e1 e2 e3 e4
          go_wp2
          go_roundw
          case rel => exact ⟨t, qs.set k (x + qq), rfl, by omega, (hown3.seti k (x + qq) (by rw [Int.natCast_add])), Lib.hid HSET.out.1, by rw [HDV.out.2]; exact i8.setAway hne k _, (hB3.drew.setCell (Nat.le_refl _) _)⟩
          case measure => simp [intOf]
        · have HDV := Lib.hid (HD.out.1 (by omega))
          have hz := cmpI_lt (m := r * 2 + 1) (n := n) (by omega)
          rw [hz]
          clear hge hz
          go_wp2
          go_roundw
          case rel => exact ⟨t, qs, rfl, by omega, hown3, Lib.hid (hinv.out.keep HDV.out.1), by rw [HDV.out.2]; exact i6, hB3⟩
          case measure => simp [intOf]
      · subst hb0
        have i6 : IsR w4 v2 (r * 2 + 0) := i3
        clear i3
        have hb6 := hb.below hB3
        go_wp2_with fail
        refine (cmpR_any i6 hb6).mono ?_
        rintro e w7 ⟨rfl, bb⟩
        replace hB3 := nextB hB3 bb
        replace hown3 := hown3.below bb hown3.lt
        replace i6 := i6.below bb
        replace hb6 := hb6.below bb
        clear bb
        by_cases hge : n ≤ r * 2 + 0
        · have HDV := Lib.hid (HD.out.2 hge)
          have hz := cmpI_ge hge
          have HGE := Lib.hid hge
          clear hge
          generalize cmpI (r * 2 + 0) n = z at hz ⊢
          have hd : decide ((0 : Int) ≤ z) = true := decide_eq_true hz
          go_wp2_with fail
          refine (subR_own i6 hb6 (L + 1) (by omega) HRL.out HGE.out).mono ?_
          have hownlt := hown3.lt
          rintro e w8 ⟨v8, rfl, i8, bb, hfr⟩
          replace hB3 := nextB hB3 bb
          replace hown3 := hown3.below bb hown3.lt
          have hne : ∀ g, v8.ownBlock = some g → g ≠ w.heap.size := fun g hg hc => by have h1 := hfr g hg; have h2 := hownlt; omega
          clear bb i6 hb6 hfr hownlt
          have HSET := Lib.hid (hinv.out.set HDV.out.1 htN)
          have hcell := hown3.cell (i := t / 16) (by rw [hinv.out.len]; exact htN)
          have hfr := hown3.frozen (t / 16)
          have hx := hinv.out.dg.nth (by omega) (t / 16)
          have hq := pow_small (show t % 16 < 16 by omega)
          have HW := Lib.hid (fun w0 => power_any (t % 16) (by omega) w0)
          have hownd : Own w8.drew .i64 3 w.heap.size qs := hown3
          have e1 : Int.tdiv (t : Int) 16 = ((t / 16 : Nat) : Int) := rfl
          have e2 : Int.tmod (t : Int) 16 = ((t % 16 : Nat) : Int) := rfl
          have e3 : (t : Int) / 16 = ((t / 16 : Nat) : Int) := rfl
          have e4 : (t : Int) % 16 = ((t % 16 : Nat) : Int) := rfl
          generalize 2 ^ (t % 16) = qq at *
          generalize t % 16 = s at *
          generalize t / 16 = k at *
          generalize nth qs k = x at *
          obtain ⟨hq1, hq2⟩ := hq
          have W1 : IntKind.i64.wrap (k : Int) = (k : Int) := IntWalk.i64_in _ (by omega)
          have W2 : IntKind.i64.wrap (s : Int) = (s : Int) := IntWalk.i64_in _ (by omega)
          have W3 : IntKind.i64.wrap ((x : Int) + (qq : Int)) = (x : Int) + (qq : Int) := IntWalk.i64_in _ (by omega)
          have hkN : (k : Int) < (N : Int) := by omega
          clear hz hd hj0
          go_wp2_with fail
          refine wp_region_still_tail 10 (by kernel_rfl) (by kernel_rfl) ?_
          simp only [List.take_succ_cons, List.take_zero, List.drop_succ_cons, List.drop_zero]
          still_step
          still_step
          still_step
          still_step
          still_step
          still_step
          still_step
          still_call (HW.out _)
          still_step
          still_step
          refine wpStill_nil ?_
          clear e1 e2 e3 e4
          go_wp2
          go_roundw
          case rel => exact ⟨t, qs.set k (x + qq), rfl, by omega, (hown3.seti k (x + qq) (by rw [Int.natCast_add])), Lib.hid HSET.out.1, by rw [HDV.out.2]; exact i8.setAway hne k _, (hB3.drew.setCell (Nat.le_refl _) _)⟩
          case measure => simp [intOf]
        · have HDV := Lib.hid (HD.out.1 (by omega))
          have hz := cmpI_lt (m := r * 2 + 0) (n := n) (by omega)
          rw [hz]
          clear hge hz
          go_wp2
          go_roundw
          case rel => exact ⟨t, qs, rfl, by omega, hown3, Lib.hid (hinv.out.keep HDV.out.1), by rw [HDV.out.2]; exact i6, hB3⟩
          case measure => simp [intOf]

end Go.Proofs.Ytppbhjhbaknidaa

/-
  The best approximation of a fraction with a small denominator: plain arithmetic. No condition.
-/
set_option linter.unusedSimpArgs false
set_option linter.unusedVariables false
namespace Go.Proofs.Ytppbhjhbaknidaa

/-- The distance of N by D and r by s, times D and s. -/
def dst (N D r s : Nat) : Nat := if N * s < r * D then r * D - N * s else N * s - r * D

/-- r by s is at least as good an approximation as r' by s'. -/
def Bt (N D r s r' s' : Nat) : Prop :=
  dst N D r s * s' < dst N D r' s' * s ∨ (dst N D r s * s' = dst N D r' s' * s ∧ (s < s' ∨ (s = s' ∧ r ≤ r')))

theorem cross_le {x1 s1 x2 s2 x3 s3 : Nat} (p2 : 0 < s2) (h1 : x1 * s2 ≤ x2 * s1) (h2 : x2 * s3 ≤ x3 * s2) : x1 * s3 ≤ x3 * s1 := by
  have a := Nat.mul_le_mul_right s3 h1
  have b := Nat.mul_le_mul_right s1 h2
  have e1 : x1 * s2 * s3 = x1 * s3 * s2 := Nat.mul_right_comm ..
  have e2 : x2 * s1 * s3 = x2 * s3 * s1 := Nat.mul_right_comm ..
  have e3 : x3 * s2 * s1 = x3 * s1 * s2 := Nat.mul_right_comm ..
  exact Nat.le_of_mul_le_mul_right (by omega) p2

theorem cross_eq {x1 s1 x2 s2 x3 s3 : Nat} (p1 : 0 < s1) (p3 : 0 < s3) (h1 : x1 * s2 ≤ x2 * s1) (h2 : x2 * s3 ≤ x3 * s2) (h : x1 * s3 = x3 * s1) :
    x1 * s2 = x2 * s1 ∧ x2 * s3 = x3 * s2 := by
  have a := Nat.mul_le_mul_right s3 h1
  have b := Nat.mul_le_mul_right s1 h2
  have e1 : x1 * s2 * s3 = x1 * s3 * s2 := Nat.mul_right_comm ..
  have e2 : x2 * s1 * s3 = x2 * s3 * s1 := Nat.mul_right_comm ..
  have e3 : x3 * s2 * s1 = x3 * s1 * s2 := Nat.mul_right_comm ..
  have e4 : x1 * s3 * s2 = x3 * s1 * s2 := by rw [h]
  exact ⟨Nat.le_antisymm h1 (Nat.le_of_mul_le_mul_right (by omega) p3), Nat.le_antisymm h2 (Nat.le_of_mul_le_mul_right (by omega) p1)⟩

theorem Bt.le {N D r s r' s' : Nat} (h : Bt N D r s r' s') : dst N D r s * s' ≤ dst N D r' s' * s := by
  unfold Bt at h; omega

theorem Bt.trans {N D r1 s1 r2 s2 r3 s3 : Nat} (h1 : Bt N D r1 s1 r2 s2) (h2 : Bt N D r2 s2 r3 s3) (p1 : 0 < s1) (p2 : 0 < s2) (p3 : 0 < s3) : Bt N D r1 s1 r3 s3 := by
  have hle := cross_le p2 h1.le h2.le
  rcases Nat.lt_or_eq_of_le hle with h | h
  · exact .inl h
  · obtain ⟨e1, e2⟩ := cross_eq p1 p3 h1.le h2.le h
    refine .inr ⟨h, ?_⟩
    unfold Bt at h1 h2
    omega

theorem Bt.total (N D r s r' s' : Nat) : Bt N D r s r' s' ∨ Bt N D r' s' r s := by
  unfold Bt; omega

theorem Bt.refl (N D r s : Nat) : Bt N D r s r s := .inr ⟨rfl, .inr ⟨rfl, Nat.le_refl _⟩⟩

theorem Bt.unique {N D r s r' s' : Nat} (h : Bt N D r s r' s') (h' : Bt N D r' s' r s) : r = r' ∧ s = s' := by
  unfold Bt at h h'; omega

theorem between {p q p2 q2 r s : Nat} (hdet : p * q2 = p2 * q + 1) (hs : s < q + q2) : p * s ≤ r * q ∨ r * q2 ≤ p2 * s := by
  refine Classical.byContradiction fun hc => ?_
  have h1 : r * q + 1 ≤ p * s := by omega
  have h2 : p2 * s + 1 ≤ r * q2 := by omega
  have a := Nat.mul_le_mul_left q2 h1
  have b := Nat.mul_le_mul_left q h2
  have c := congrArg (s * ·) hdet
  simp only [Nat.mul_add, Nat.mul_one, Nat.mul_comm, Nat.mul_left_comm, Nat.mul_assoc] at a b c
  omega

theorem best_up {N D p q p2 q2 d r s : Nat} (hdet : p * q2 = p2 * q + 1) (hp : p * D = N * q + d) (hq : 0 < q) (hD : 0 < D) (hs : 0 < s) (h : p * s ≤ r * q) : Bt N D p q r s := by
  have e1 : dst N D p q = d := by unfold dst; split <;> omega
  have a := Nat.mul_le_mul_left D h
  have c := congrArg (s * ·) hp
  have k : q * (N * s) + s * d ≤ q * (r * D) := by
    simp only [Nat.mul_add, Nat.mul_comm, Nat.mul_left_comm, Nat.mul_assoc] at a c ⊢
    omega
  have k2 : N * s ≤ r * D := Nat.le_of_mul_le_mul_left (by omega : q * (N * s) ≤ q * (r * D)) hq
  obtain ⟨e, he⟩ := Nat.exists_eq_add_of_le k2
  have e2 : dst N D r s = e := by unfold dst; split <;> omega
  unfold Bt
  rw [e1, e2]
  rw [he, Nat.mul_add] at k
  have k3 : d * s ≤ e * q := by
    rw [Nat.mul_comm d s, Nat.mul_comm e q]; omega
  rcases Nat.lt_or_eq_of_le k3 with h3 | h3
  · exact .inl h3
  · refine .inr ⟨h3, ?_⟩
    have hps : p * s = r * q := by
      refine Nat.eq_of_mul_eq_mul_left hD ?_
      have f := congrArg (q * ·) he
      simp only [Nat.mul_add, Nat.mul_comm, Nat.mul_left_comm, Nat.mul_assoc] at c f h3 ⊢
      omega
    have g := congrArg (s * ·) hdet
    have g2 := congrArg (q2 * ·) hps
    have hdv : q ∣ s := by
      have e3 : q * (r * q2) = q * (s * p2) + s := by
        simp only [Nat.mul_add, Nat.mul_one, Nat.mul_comm, Nat.mul_left_comm, Nat.mul_assoc] at g g2 ⊢
        omega
      exact (Nat.dvd_add_right (Nat.dvd_mul_right q (s * p2))).1 (e3 ▸ Nat.dvd_mul_right q (r * q2))
    have hle := Nat.le_of_dvd hs hdv
    rcases Nat.lt_or_eq_of_le hle with h4 | h4
    · exact .inl h4
    · refine .inr ⟨h4, ?_⟩
      subst h4
      exact Nat.le_of_eq (Nat.eq_of_mul_eq_mul_right hq hps)

theorem best_down {N D p q p2 q2 u r s : Nat} (hdet : p * q2 = p2 * q + 1) (hp : N * q2 = p2 * D + u) (hq : 0 < q2) (hD : 0 < D) (hs : 0 < s) (h : r * q2 ≤ p2 * s) : Bt N D p2 q2 r s := by
  have e1 : dst N D p2 q2 = u := by unfold dst; split <;> omega
  have a := Nat.mul_le_mul_left D h
  have c := congrArg (s * ·) hp
  have k : q2 * (r * D) + s * u ≤ q2 * (N * s) := by
    simp only [Nat.mul_add, Nat.mul_comm, Nat.mul_left_comm, Nat.mul_assoc] at a c ⊢
    omega
  have k2 : r * D ≤ N * s := Nat.le_of_mul_le_mul_left (by omega : q2 * (r * D) ≤ q2 * (N * s)) hq
  obtain ⟨e, he⟩ := Nat.exists_eq_add_of_le k2
  have e2 : dst N D r s = e := by unfold dst; split <;> omega
  unfold Bt
  rw [e1, e2]
  rw [he, Nat.mul_add] at k
  have k3 : u * s ≤ e * q2 := by
    rw [Nat.mul_comm u s, Nat.mul_comm e q2]; omega
  rcases Nat.lt_or_eq_of_le k3 with h3 | h3
  · exact .inl h3
  · refine .inr ⟨h3, ?_⟩
    have hps : p2 * s = r * q2 := by
      refine Nat.eq_of_mul_eq_mul_left hD ?_
      have f := congrArg (q2 * ·) he
      simp only [Nat.mul_add, Nat.mul_comm, Nat.mul_left_comm, Nat.mul_assoc] at c f h3 ⊢
      omega
    have g := congrArg (s * ·) hdet
    have g2 := congrArg (q * ·) hps
    have hdv : q2 ∣ s := by
      have e3 : q2 * (s * p) = q2 * (r * q) + s := by
        simp only [Nat.mul_add, Nat.mul_one, Nat.mul_comm, Nat.mul_left_comm, Nat.mul_assoc] at g g2 ⊢
        omega
      exact (Nat.dvd_add_right (Nat.dvd_mul_right q2 (r * q))).1 (e3 ▸ Nat.dvd_mul_right q2 (s * p))
    have hle := Nat.le_of_dvd hs hdv
    rcases Nat.lt_or_eq_of_le hle with h4 | h4
    · exact .inl h4
    · refine .inr ⟨h4, ?_⟩
      subst h4
      exact Nat.le_of_eq (Nat.eq_of_mul_eq_mul_right hq hps)

theorem best_det {N D p q p2 q2 u d r s : Nat} (hdet : p * q2 = p2 * q + 1) (hN : N = u * p + d * p2) (hD : D = u * q + d * q2) (hD0 : 0 < D) (hq : 0 < q) (hq2 : 0 < q2) (hs : 0 < s) (hsM : s < q + q2) :
    Bt N D p q r s ∨ Bt N D p2 q2 r s := by
  have h1 : p * D = N * q + d := by
    have g := congrArg (d * ·) hdet
    rw [hN, hD]
    simp only [Nat.mul_add, Nat.add_mul, Nat.mul_one, Nat.mul_comm, Nat.mul_left_comm, Nat.mul_assoc] at g ⊢
    omega
  have h2 : N * q2 = p2 * D + u := by
    have g := congrArg (u * ·) hdet
    rw [hN, hD]
    simp only [Nat.mul_add, Nat.add_mul, Nat.mul_one, Nat.mul_comm, Nat.mul_left_comm, Nat.mul_assoc] at g ⊢
    omega
  rcases between (r := r) hdet hsM with h | h
  · exact .inl (best_up hdet h1 hq hD0 hs h)
  · exact .inr (best_down hdet h2 hq2 hD0 hs h)

/-- Neighbours: the determinant is 1 or -1. -/
def Nb (p q p2 q2 : Nat) : Prop := p * q2 = p2 * q + 1 ∨ p2 * q = p * q2 + 1

theorem best_two {N D p q p2 q2 u d r s : Nat} (hdet : Nb p q p2 q2) (hN : N = u * p + d * p2) (hD : D = u * q + d * q2) (hD0 : 0 < D) (hq : 0 < q) (hq2 : 0 < q2) (hs : 0 < s) (hsM : s < q + q2) :
    Bt N D p q r s ∨ Bt N D p2 q2 r s := by
  rcases hdet with h | h
  · exact best_det h hN hD hD0 hq hq2 hs hsM
  · exact (best_det h (by rw [hN, Nat.add_comm]) (by rw [hD, Nat.add_comm]) hD0 hq2 hq hs (by omega)).symm

theorem dvd_one_of {g x y : Nat} (h : x = y + 1) (hx : g ∣ x) (hy : g ∣ y) : g = 1 := by
  rw [h] at hx
  exact Nat.dvd_one.1 ((Nat.dvd_add_right hy).1 hx)

theorem Nb.gcd1 {p q p2 q2 : Nat} (h : Nb p q p2 q2) : Nat.gcd p q = 1 := by
  have h1 : Nat.gcd p q ∣ p * q2 := Nat.dvd_trans (Nat.gcd_dvd_left p q) (Nat.dvd_mul_right _ _)
  have h2 : Nat.gcd p q ∣ p2 * q := Nat.dvd_trans (Nat.gcd_dvd_right p q) (Nat.dvd_mul_left _ _)
  rcases h with h | h
  · exact dvd_one_of h h1 h2
  · exact dvd_one_of h h2 h1
theorem Nb.gcd2 {p q p2 q2 : Nat} (h : Nb p q p2 q2) : Nat.gcd p2 q2 = 1 := by
  have h1 : Nat.gcd p2 q2 ∣ p * q2 := Nat.dvd_trans (Nat.gcd_dvd_right p2 q2) (Nat.dvd_mul_left _ _)
  have h2 : Nat.gcd p2 q2 ∣ p2 * q := Nat.dvd_trans (Nat.gcd_dvd_left p2 q2) (Nat.dvd_mul_right _ _)
  rcases h with h | h
  · exact dvd_one_of h h1 h2
  · exact dvd_one_of h h2 h1

/-- The best approximation. -/
structure IsBest (N D M r s : Nat) : Prop where
  pos : 0 < s
  le : s ≤ M
  low : Nat.gcd r s = 1
  best : ∀ r' s', 0 < s' → s' ≤ M → Bt N D r s r' s'

theorem IsBest.unique {N D M r s r' s' : Nat} (h : IsBest N D M r s) (h' : IsBest N D M r' s') : r = r' ∧ s = s' :=
  (h.best r' s' h'.pos h'.le).unique (h'.best r s h.pos h.le)

theorem best_of_two {N D M p q p2 q2 u d r s : Nat} (hdet : Nb p q p2 q2) (hN : N = u * p + d * p2) (hD : D = u * q + d * q2) (hD0 : 0 < D) (hq : 0 < q) (hq2 : 0 < q2) (hqM : q ≤ M) (hq2M : q2 ≤ M) (hM : M < q + q2)
    (h : (r = p ∧ s = q ∧ Bt N D p q p2 q2) ∨ (r = p2 ∧ s = q2 ∧ Bt N D p2 q2 p q)) : IsBest N D M r s := by
  rcases h with ⟨rfl, rfl, h⟩ | ⟨rfl, rfl, h⟩
  · refine ⟨hq, hqM, hdet.gcd1, fun r' s' h1 h2 => ?_⟩
    rcases best_two (r := r') hdet hN hD hD0 hq hq2 h1 (by omega) with g | g
    · exact g
    · exact h.trans g hq hq2 h1
  · refine ⟨hq2, hq2M, hdet.gcd2, fun r' s' h1 h2 => ?_⟩
    rcases best_two (r := r') hdet hN hD hD0 hq hq2 h1 (by omega) with g | g
    · exact h.trans g hq2 hq h1
    · exact g

/-! The program's loop: convergents. -/

structure Conv (N D M lp lq p q num den : Nat) : Prop where
  hN : N = num * p + den * lp
  hD : D = num * q + den * lq
  det : Nb p q lp lq
  q_le : q ≤ M
  lq_le : lq ≤ M
  p_le : p ≤ N + 1
  lp_le : lp ≤ N + 1
  num_le : num ≤ N + D
  den_le : den ≤ N + D

theorem Conv.start {N D M : Nat} (hM : 1 ≤ M) : Conv N D M 0 1 1 0 N D :=
  ⟨by omega, by omega, .inl rfl, by omega, hM, by omega, by omega, by omega, by omega⟩

theorem Conv.step {N D M lp lq p q num den : Nat} (h : Conv N D M lp lq p q num den) (hd : 0 < den) (hq : num / den * q + lq ≤ M) :
    Conv N D M p q (num / den * p + lp) (num / den * q + lq) den (num % den) := by
  have e := Nat.div_add_mod num den
  have hlt := Nat.mod_lt num hd
  have hdn := h.den_le
  generalize num / den = a at *
  generalize num % den = b at *
  have e1 : N = den * (a * p + lp) + b * p := by
    rw [h.hN, ← e]
    simp only [Nat.mul_add, Nat.add_mul, Nat.mul_comm, Nat.mul_left_comm, Nat.mul_assoc]
    omega
  have e2 : D = den * (a * q + lq) + b * q := by
    rw [h.hD, ← e]
    simp only [Nat.mul_add, Nat.add_mul, Nat.mul_comm, Nat.mul_left_comm, Nat.mul_assoc]
    omega
  refine ⟨e1, e2, ?_, hq, h.q_le, ?_, h.p_le, h.den_le, by omega⟩
  · rcases h.det with g | g
    · refine .inr ?_
      simp only [Nat.mul_add, Nat.add_mul, Nat.mul_comm, Nat.mul_left_comm, Nat.mul_assoc] at g ⊢
      omega
    · refine .inl ?_
      simp only [Nat.mul_add, Nat.add_mul, Nat.mul_comm, Nat.mul_left_comm, Nat.mul_assoc] at g ⊢
      omega
  · have := Nat.le_mul_of_pos_left (a * p + lp) hd
    omega

/-- The expansion does not come to its end: the last denominator would be D. -/
theorem Conv.den_pos {N D M lp lq p q num den : Nat} (h : Conv N D M lp lq p q num den) (hg : Nat.gcd N D = 1) (hM : M < D) : 0 < den := by
  refine Nat.pos_of_ne_zero fun h0 => ?_
  subst h0
  have e1 := h.hN
  have e2 := h.hD
  rw [Nat.zero_mul, Nat.add_zero] at e1 e2
  have : num ∣ 1 := by rw [← hg]; exact Nat.dvd_gcd (e1 ▸ Nat.dvd_mul_right _ _) (e2 ▸ Nat.dvd_mul_right _ _)
  have := Nat.dvd_one.1 this
  subst this
  have := h.q_le
  omega

structure Ends (N D M lp lq p q num den : Nat) : Prop where
  q0 : 0 < q
  q2 : 0 < (M - lq) / q * q + lq
  q2_le : (M - lq) / q * q + lq ≤ M
  p2_le : (M - lq) / q * p + lp ≤ N
  best : ∀ r s, ((r = p ∧ s = q ∧ Bt N D p q ((M - lq) / q * p + lp) ((M - lq) / q * q + lq)) ∨ (r = (M - lq) / q * p + lp ∧ s = (M - lq) / q * q + lq ∧ Bt N D ((M - lq) / q * p + lp) ((M - lq) / q * q + lq) p q)) → IsBest N D M r s
  g1 : Nat.gcd p q = 1
  g2 : Nat.gcd ((M - lq) / q * p + lp) ((M - lq) / q * q + lq) = 1

theorem Conv.ends {N D M lp lq p q num den : Nat} (h : Conv N D M lp lq p q num den) (hM : 1 ≤ M) (hd : 0 < den) (hD0 : 0 < D) (hq : M < num / den * q + lq) : Ends N D M lp lq p q num den := by
  have q0 : 0 < q := by
    refine Nat.pos_of_ne_zero fun h0 => ?_
    subst h0
    have := h.lq_le
    omega
  have h1 := h.lq_le
  have h2 := h.q_le
  have e := Nat.div_add_mod (M - lq) q
  have hlt := Nat.mod_lt (M - lq) q0
  have e3 := Nat.div_add_mod num den
  generalize ht : (M - lq) / q = t at *
  generalize (M - lq) % q = x at *
  generalize num / den = a at *
  generalize num % den = b at *
  rw [Nat.mul_comm] at e
  have hta : t < a := by
    refine Nat.lt_of_not_le fun hc => ?_
    have := Nat.mul_le_mul_right q hc
    omega
  have hu : t * den + den ≤ num := by
    have := Nat.mul_le_mul_left den hta
    rw [Nat.mul_succ] at this
    rw [Nat.mul_comm t den]
    omega
  obtain ⟨u, hu2⟩ : ∃ u, num = u + t * den := ⟨num - t * den, by omega⟩
  have q2 : 0 < t * q + lq := by
    refine Nat.pos_of_ne_zero fun h0 => ?_
    have : lq = 0 := by omega
    have : t * q = 0 := by omega
    omega
  have hdet : Nb p q (t * p + lp) (t * q + lq) := by
    rcases h.det with g | g
    · refine .inl ?_
      simp only [Nat.mul_add, Nat.add_mul, Nat.mul_comm, Nat.mul_left_comm, Nat.mul_assoc] at g ⊢
      omega
    · refine .inr ?_
      simp only [Nat.mul_add, Nat.add_mul, Nat.mul_comm, Nat.mul_left_comm, Nat.mul_assoc] at g ⊢
      omega
  have hN : N = u * p + den * (t * p + lp) := by
    rw [h.hN, hu2]
    simp only [Nat.mul_add, Nat.add_mul, Nat.mul_comm, Nat.mul_left_comm, Nat.mul_assoc]
    omega
  have hD : D = u * q + den * (t * q + lq) := by
    rw [h.hD, hu2]
    simp only [Nat.mul_add, Nat.add_mul, Nat.mul_comm, Nat.mul_left_comm, Nat.mul_assoc]
    omega
  refine ⟨q0, by rw [ht]; exact q2, by rw [ht]; omega, ?_, ?_, hdet.gcd1, by rw [ht]; exact hdet.gcd2⟩
  · rw [ht]
    have := Nat.le_mul_of_pos_left (t * p + lp) hd
    omega
  · intro r s hrs
    rw [ht] at hrs
    exact best_of_two hdet hN hD hD0 q0 q2 h2 (by omega) (by omega) hrs

/-! The reference: the best numerator of each denominator. -/

structure One (N D q P x : Nat) : Prop where
  eq : dst N D P q = x
  best : ∀ r, Bt N D P q r q

theorem one_of {N D q P x : Nat} (h1 : dst N D P q = x) (h : ∀ r, x ≤ dst N D r q ∧ (x = dst N D r q → P ≤ r)) (hq : 0 < q) : One N D q P x := by
  refine ⟨h1, fun r => ?_⟩
  have ⟨h2, h3⟩ := h r
  rcases Nat.lt_or_eq_of_le h2 with g | g
  · refine .inl ?_
    rw [h1]
    exact Nat.mul_lt_mul_of_pos_right g hq
  · refine .inr ⟨by rw [h1, g], .inr ⟨rfl, h3 g⟩⟩

theorem one_floor {N D q : Nat} (hD : 0 < D) (hq : 0 < q) (h : N * q % D ≤ D - N * q % D) : One N D q (N * q / D) (N * q % D) := by
  have e := Nat.div_add_mod (N * q) D
  have hlt := Nat.mod_lt (N * q) hD
  generalize N * q / D = p at *
  generalize N * q % D = x at *
  have e2 : N * q = p * D + x := by rw [Nat.mul_comm p D]; omega
  refine one_of ?_ (fun r => ?_) hq
  · unfold dst; split <;> omega
  · unfold dst
    rcases Nat.lt_or_ge p r with g | g
    · have := Nat.mul_le_mul_right D (show p + 1 ≤ r from g)
      rw [Nat.add_mul, Nat.one_mul] at this
      split
      · exact ⟨by omega, fun _ => by omega⟩
      · exact ⟨by omega, fun _ => by omega⟩
    · have hm := Nat.mul_le_mul_right D g
      split
      · exact ⟨by omega, fun _ => by omega⟩
      · refine ⟨by omega, fun hx => ?_⟩
        have : r * D = p * D := by omega
        exact Nat.le_of_eq (Nat.eq_of_mul_eq_mul_right hD this).symm

theorem one_ceil {N D q : Nat} (hD : 0 < D) (hq : 0 < q) (h : D - N * q % D < N * q % D) : One N D q (N * q / D + 1) (D - N * q % D) := by
  have e := Nat.div_add_mod (N * q) D
  have hlt := Nat.mod_lt (N * q) hD
  generalize N * q / D = p at *
  generalize N * q % D = x at *
  have e2 : N * q = p * D + x := by rw [Nat.mul_comm p D]; omega
  refine one_of ?_ (fun r => ?_) hq
  · unfold dst
    rw [Nat.add_mul, Nat.one_mul]
    split <;> omega
  · unfold dst
    rcases Nat.lt_or_ge p r with g | g
    · have := Nat.mul_le_mul_right D (show p + 1 ≤ r from g)
      rw [Nat.add_mul, Nat.one_mul] at this
      split
      · exact ⟨by omega, fun _ => by omega⟩
      · exact ⟨by omega, fun _ => by omega⟩
    · have hm := Nat.mul_le_mul_right D g
      split
      · exact ⟨by omega, fun _ => by omega⟩
      · exact ⟨by omega, fun hx => by omega⟩

/-- What the reference holds after the denominators up to k. -/
def Upto (N D k P L far : Nat) : Prop := (L = 0 ∧ k = 0) ∨ (0 < L ∧ L ≤ k ∧ far = dst N D P L ∧ ∀ r s, 0 < s → s ≤ k → Bt N D P L r s)

theorem Upto.start (N D P far : Nat) : Upto N D 0 P 0 far := .inl ⟨rfl, rfl⟩

theorem Upto.take {N D k P L far Q x : Nat} (h : Upto N D k P L far) (g : One N D (k + 1) Q x) (hx : L = 0 ∨ x * L < far * (k + 1)) : Upto N D (k + 1) Q (k + 1) x := by
  refine .inr ⟨by omega, Nat.le_refl _, g.eq.symm, fun r s h1 h2 => ?_⟩
  by_cases hs : s = k + 1
  · rw [hs]; exact g.best r
  · rcases h with ⟨h3, h4⟩ | ⟨h3, h4, h5, h6⟩
    · omega
    · have hb : Bt N D Q (k + 1) P L := .inl (by rw [g.eq, ← h5]; omega)
      exact hb.trans (h6 r s h1 (by omega)) (by omega) h3 h1

theorem Upto.leave {N D k P L far Q x : Nat} (h : Upto N D k P L far) (g : One N D (k + 1) Q x) (h0 : L ≠ 0) (hx : ¬ x * L < far * (k + 1)) : Upto N D (k + 1) P L far := by
  rcases h with ⟨h3, h4⟩ | ⟨h3, h4, h5, h6⟩
  · omega
  · refine .inr ⟨h3, by omega, h5, fun r s h1 h2 => ?_⟩
    by_cases hs : s = k + 1
    · subst hs
      have hb : Bt N D P L Q (k + 1) := by
        unfold Bt
        rw [← h5, g.eq]
        omega
      exact hb.trans (g.best r) h3 (by omega) (by omega)
    · exact h6 r s h1 (by omega)

theorem dst_mul (N D r s g : Nat) : dst N D (g * r) (g * s) = g * dst N D r s := by
  have e1 : N * (g * s) = g * (N * s) := Nat.mul_left_comm ..
  have e2 : g * r * D = g * (r * D) := Nat.mul_assoc ..
  unfold dst
  rw [e1, e2]
  by_cases hg : g = 0
  · subst hg; simp
  · by_cases h : N * s < r * D
    · rw [if_pos h, if_pos (Nat.mul_lt_mul_of_pos_left h (by omega)), Nat.mul_sub]
    · rw [if_neg h, if_neg (fun hc => h (Nat.lt_of_mul_lt_mul_left hc)), Nat.mul_sub]

theorem Upto.done {N D M P L far : Nat} (h : Upto N D M P L far) (hM : 1 ≤ M) : IsBest N D M P L := by
  rcases h with ⟨h3, h4⟩ | ⟨h3, h4, h5, h6⟩
  · omega
  · refine ⟨h3, h4, ?_, h6⟩
    obtain ⟨r, hr⟩ := Nat.gcd_dvd_left P L
    obtain ⟨s, hs⟩ := Nat.gcd_dvd_right P L
    have hg : 0 < Nat.gcd P L := Nat.gcd_pos_of_pos_right _ h3
    generalize Nat.gcd P L = g at *
    have hs0 : 0 < s := Nat.pos_of_ne_zero fun h0 => by subst h0; omega
    have hle : s ≤ L := by rw [hs]; exact Nat.le_mul_of_pos_left _ hg
    have hb := h6 r s hs0 (by omega)
    unfold Bt at hb
    have e : dst N D P L * s = dst N D r s * L := by
      have e1 := dst_mul N D r s g
      rw [← hr, ← hs] at e1
      rw [e1, hs, Nat.mul_comm g (dst N D r s), Nat.mul_assoc]
    have hLs : L ≤ s := by omega
    have : L = s := by omega
    subst this
    exact (Nat.eq_of_mul_eq_mul_right h3 (by rw [Nat.one_mul]; exact hs)).symm

end Go.Proofs.Ytppbhjhbaknidaa

/-
  The contracts of the program's Lsh, Rsh, Int, Bit of numbers. Condition: numbers of at most 2^29 bits.
-/
set_option linter.unusedVariables false
set_option linter.unusedSimpArgs false
namespace Go.Proofs.Ytppbhjhbaknidaa
open Go.RowKit

theorem fitE_zero : fitE 0 = 0 := if_pos (P2_pos _)
theorem fitE_P2 {m n : Nat} (hm : 0 < m) (hn : 16384 < n) : fitE (m * P2 n) = 3 := by
  refine if_neg fun h => ?_
  have h1 : P2 16384 ≤ P2 n := P2_mono (by omega)
  have h2 : P2 n ≤ m * P2 n := Nat.le_mul_of_pos_left _ hm
  omega

set_option maxHeartbeats 1000000 in
set_option maxRecDepth 100000 in
theorem Lsh_any {w : World} {v : Value} {m : Nat} (ha : IsNat w v m) (n : Nat) (hn : n < 9223372036854775808) (L : Nat) (hL : L ≤ 1073741824) (hm : m < P2 L) :
    Calls Try.prog 72 #[v, .int .i64 n] w (RetE w (m * P2 n) (fitE (m * P2 n))) := by
  obtain ⟨ao, k, cap, rfl, ia, hk, -⟩ := ha.len
  obtain ⟨hB, ka, kr⟩ := pro2 w (.slice ao k cap) (.slice none 0 0)
  have d1 : decide ((n : Int) < 0) = false := decide_eq_false (by omega)
  by_cases hm0 : m = 0
  · have hk0 := hk.2 hm0
    subst hk0
    subst hm0
    rw [Nat.zero_mul, fitE_zero]
    clear hk ha
    go_enter Try.func72, Try.ntmps72
    go_wp2
    refine bodyPost_ret (v := .tuple #[.agg #[.slice ao 0 cap], .int .i64 (0 : Nat)]) (by simp [results, Try.results72, go_sem]) rfl ⟨_, rfl, ⟨_, rfl, ia.below ((((Below.refl _ _).alloc (Nat.le_refl _) _).alloc (by simp) _))⟩, ((Below.refl _ _).alloc (Nat.le_refl _) _).alloc (by simp) _⟩
  · have hkb : ((k : Int) == 0) = false := by rw [beq_eq_false_iff_ne]; intro hc; exact hm0 (hk.1 (by omega))
    clear hk
    by_cases hb : 16384 < n
    · rw [fitE_P2 (by omega) hb]
      go_enter Try.func72, Try.ntmps72
      go_wp2
      refine bodyPost_ret (v := .tuple #[.agg #[.slice none 0 0], .int .i64 (3 : Nat)]) (by simp [results, Try.results72, go_sem]) rfl ⟨_, rfl, IsNat.zero _, hB⟩
    · have hLn : m * P2 n < P2 (L + n) := by rw [P2_add]; exact Nat.mul_lt_mul_of_pos_right hm (P2_pos n)
      have HL := Lib.hid hLn
      have HM := Lib.hid hm
      clear hLn hm hn
      go_enter Try.func72, Try.ntmps72
      go_wp2_with fail
      refine (lsh_any (ia.below hB) n (by omega) (by omega) L (by omega) HM.out).mono ?_
      rintro e w1 ⟨v1, rfl, iv, b⟩
      rw [Int.toNat_natCast] at iv
      replace hB := nextB hB b
      replace kr := kr.below b
      clear b ka
      generalize m * P2 n = p at *
      go_wp2_with fail
      refine (fits_any iv (L + n) (by omega) HL.out).mono ?_
      rintro e w2 ⟨v2, rfl, ⟨s2, rfl, is2⟩, b2⟩
      obtain ⟨ao3, k3, cap3, rfl⟩ := is2.slice
      replace hB := nextB hB b2
      replace kr := kr.below b2
      have c1 := kr.cell
      have f1 := kr.free
      go_wp2
      refine bodyPost_ret (v := .tuple #[.agg #[.slice ao3 k3 cap3], .int .i64 (fitE p : Nat)]) (by simp [results, Try.results72, go_sem, c1]) rfl ⟨_, rfl, ⟨_, rfl, is2.setBx kr NoInt.one _⟩, hB.setCell (by simp) _⟩

set_option maxHeartbeats 400000 in
theorem Lsh_neg {w : World} {v : Value} {m : Nat} (ha : IsNat w v m) (n : Int) (hn : n < 0) :
    Calls Try.prog 72 #[v, .int .i64 n] w (RetE w 0 2) := by
  obtain ⟨ao, k, cap, rfl, ia⟩ := ha.slice
  obtain ⟨hB, ka, kr⟩ := pro2 w (.slice ao k cap) (.slice none 0 0)
  go_enter Try.func72, Try.ntmps72
  go_wp2
  refine bodyPost_ret (v := .tuple #[.agg #[.slice none 0 0], .int .i64 (2 : Nat)]) (by simp [results, Try.results72, go_sem]) rfl ⟨_, rfl, IsNat.zero _, hB⟩

set_option maxHeartbeats 400000 in
theorem Rsh_neg {w : World} {v : Value} {m : Nat} (ha : IsNat w v m) (n : Int) (hn : n < 0) :
    Calls Try.prog 73 #[v, .int .i64 n] w (RetE w 0 2) := by
  obtain ⟨ao, k, cap, rfl, ia⟩ := ha.slice
  obtain ⟨hB, ka, kr⟩ := pro2 w (.slice ao k cap) (.slice none 0 0)
  go_enter Try.func73, Try.ntmps73
  go_wp2
  refine bodyPost_ret (v := .tuple #[.agg #[.slice none 0 0], .int .i64 (2 : Nat)]) (by simp [results, Try.results73, go_sem]) rfl ⟨_, rfl, IsNat.zero _, hB⟩

theorem div_P2_min {m n : Nat} (hm : m < P2 16384) : m / P2 (min n 16384) = m / P2 n := by
  by_cases h : n ≤ 16384
  · rw [Nat.min_eq_left h]
  · have h1 : P2 16384 ≤ P2 n := P2_mono (by omega)
    rw [Nat.min_eq_right (by omega), Nat.div_eq_of_lt hm, Nat.div_eq_of_lt (by omega)]

set_option maxHeartbeats 1000000 in
set_option maxRecDepth 100000 in
theorem Rsh_any {w : World} {v : Value} {m : Nat} (ha : IsNat w v m) (n : Nat) (hn : n < 9223372036854775808) (hm : m < P2 16384) :
    Calls Try.prog 73 #[v, .int .i64 n] w (RetE w (m / P2 n) 0) := by
  obtain ⟨ao, k, cap, rfl, ia⟩ := ha.slice
  obtain ⟨hB, ka, kr⟩ := pro2 w (.slice ao k cap) (.slice none 0 0)
  have d1 : decide ((n : Int) < 0) = false := decide_eq_false (by omega)
  have HM := Lib.hid (div_P2_min (n := n) hm)
  obtain ⟨L, hLe⟩ : ∃ L, L = 16384 := ⟨_, rfl⟩
  have hLL : L ≤ 16384 := by omega
  have HL : Hid (m < P2 L) := Lib.hid (by rw [hLe]; exact hm)
  have hmin : min (n : Int) 16384 = ((min n 16384 : Nat) : Int) := by omega
  have hmb : min n 16384 ≤ 16384 := Nat.min_le_right _ _
  generalize min n 16384 = t at *
  clear hm hLe hn
  go_enter Try.func73, Try.ntmps73
  go_wp2_with fail
  refine (rsh_any (ia.below hB) t (by omega) (by omega) L (by omega) HL.out).mono ?_
  rintro e w1 ⟨v1, rfl, iv, b⟩
  rw [Int.toNat_natCast, HM.out] at iv
  obtain ⟨ao3, k3, cap3, rfl⟩ := iv.slice
  replace hB := nextB hB b
  replace kr := kr.below b
  have c1 := kr.cell
  have f1 := kr.free
  go_wp2
  refine bodyPost_ret (v := .tuple #[.agg #[.slice ao3 k3 cap3], .int .i64 (0 : Nat)]) (by simp [results, Try.results73, go_sem, c1]) rfl ⟨_, rfl, ⟨_, rfl, iv.setBx kr NoInt.one _⟩, hB.setCell (by simp) _⟩

/-- The number as an int, and whether it is one. -/
def I63 : Nat := 9223372036854775808
def intN (n : Nat) : Nat := if n < I63 then n else 0
def intB (n : Nat) : Bool := decide (n < I63)
def RetIB (w : World) (n : Nat) (e : Ending) (w' : World) : Prop := e = .returned (.tuple #[.int .i64 (intN n), .bool (intB n)]) ∧ Below w.heap.size w w'

theorem I63_P2 : P2 63 = I63 := rfl

set_option maxHeartbeats 1000000 in
set_option maxRecDepth 100000 in
theorem Int_any {w : World} {v : Value} {n : Nat} (ha : IsNat w v n) (L : Nat) (hL : L ≤ 1073741824) (hn : n < P2 L) :
    Calls Try.prog 66 #[v] w (RetIB w n) := by
  obtain ⟨ao, k, cap, rfl, ia⟩ := ha.slice
  obtain ⟨hB, ka⟩ := pro1 w (.slice ao k cap)
  have hbl : blen n ≤ 63 ↔ n < P2 63 := blen_le
  have hbL : blen n ≤ L := blen_le.2 hn
  have HN := Lib.hid hn
  rw [I63_P2] at hbl
  by_cases h : n < I63
  · have hb := hbl.2 h
    have e1 : intN n = n := if_pos h
    have e2 : intB n = true := decide_eq_true h
    have E1 := Lib.hid e1
    have E2 := Lib.hid e2
    clear e1 e2 hbl hn
    obtain ⟨xs, ⟨ao', k', cap', b, off, hv, hs⟩, hc, rfl⟩ := id ia
    cases hv
    have hl := hc.len_P2 (L := 63) (by rw [I63_P2]; exact h)
    rw [hs.len] at hl
    have hk2 : k ≤ 2 := by omega
    have HI := Lib.hid h
    clear h
    go_enter Try.func66, Try.ntmps66
    go_wp2_with fail
    refine (bitLen_any (ia.below hB) L (by omega) HN.out).mono ?_
    rintro e wq ⟨rfl, hw⟩
    subst hw
    obtain ⟨wo, hwo⟩ : ∃ wo : World, wo = w.alloc (.cells #[.slice ao k cap] 25) := ⟨_, rfl⟩
    rw [← hwo] at hB ka ⊢
    clear hwo
    have hs2 := hs.below hB
    have c0 := ka.cell
    go_wp2
    go_loop [4, 5] (fun x i => ∃ (j y : Nat), i = .int .i64 ((j : Int) - 1) ∧ x = .int .u64 y ∧ j ≤ k ∧ Hid (y = val 4294967296 (xs.drop j))) (fun _ i => (intOf i + 1).toNat)
    case atStart => exact ⟨k, 0, rfl, rfl, Nat.le_refl _, Lib.hid (by rw [List.drop_of_length_le (by rw [hs.len]; exact Nat.le_refl _)]; rfl)⟩
    case round =>
      obtain ⟨j, y, rfl, rfl, hj, hy⟩ := hrel
      by_cases hj0 : j = 0
      · subst hj0
        have hy2 : y < 9223372036854775808 := by
          have := hy.out
          rw [List.drop_zero] at this
          rw [this]; exact HI.out
        have HY : Hid (intN (val 4294967296 xs) = y) := Lib.hid (by rw [E1.out, hy.out, List.drop_zero])
        have hd0 : decide ((0 : Int) ≤ ((0 : Nat) : Int) - 1) = false := rfl
        have hd1 : decide ((9223372036854775807 : Int) < (y : Int)) = false := decide_eq_false (by omega)
        have W1 : IntKind.i64.wrap (y : Int) = (y : Int) := IntWalk.i64_in _ (by omega)
        clear hy2
        go_wp2
        go_ret2
        exact ⟨by rw [HY.out, E2.out]; rfl, hB⟩
      · obtain ⟨t, rfl⟩ : ∃ t, j = t + 1 := ⟨j - 1, by omega⟩
        rw [show ((t + 1 : Nat) : Int) - 1 = (t : Int) by omega]
        obtain rfl := hs.addr.resolve_right (by omega)
        have hc1 := hs2.cells t (by omega)
        have hx := hc.1.nth (by omega) t
        have hyv : Hid (nth xs t + 4294967296 * y = val 4294967296 (xs.drop t)) := Lib.hid (by
          rw [hy.out, ← val_drop_cons _ (by rw [hs.len]; omega)])
        have hle : nth xs t + 4294967296 * y < 9223372036854775808 := by
          rw [hyv.out]
          have h1 := val_take_drop 4294967296 xs t (by rw [hs.len]; omega)
          have h2 : val 4294967296 (xs.drop t) ≤ val 4294967296 xs := by
            rw [h1]
            have := Nat.le_mul_of_pos_left (val 4294967296 (xs.drop t)) (Nat.pow_pos (n := t) (show 0 < 4294967296 by omega))
            omega
          have h3 : val 4294967296 xs < 9223372036854775808 := HI.out
          omega
        have hy32 : y < 4294967296 := by omega
        have hor := or64' hx hy32
        generalize nth xs t = x at *
        clear hle hj0
        go_wp2
        go_round
        case rel => exact ⟨t, x + 4294967296 * y, rfl, by refine congrArg _ ?_; omega, by omega, hyv⟩
        case measure => simp [intOf]
  · have e1 : intN n = 0 := if_neg h
    have e2 : intB n = false := decide_eq_false h
    have E1 := Lib.hid e1
    have E2 := Lib.hid e2
    have hb : ¬ blen n ≤ 63 := fun hc => h (hbl.1 hc)
    clear e1 e2 hbl hn h
    go_enter Try.func66, Try.ntmps66
    go_wp2_with fail
    refine (bitLen_any (ia.below hB) L (by omega) HN.out).mono ?_
    rintro e wq ⟨rfl, hw⟩
    subst hw
    go_wp2
    go_ret2
    exact ⟨by rw [E1.out, E2.out]; rfl, hB⟩

end Go.Proofs.Ytppbhjhbaknidaa

/-
  The contracts of the program's Bit, Binomial, Pow. Condition: numbers of at most 2^29 bits.
-/
set_option linter.unusedVariables false
set_option linter.unusedSimpArgs false
namespace Go.Proofs.Ytppbhjhbaknidaa
open Go.RowKit

theorem nth_digit32 {xs : List Nat} (h : Dg 4294967296 xs) (k : Nat) : nth xs k = val 4294967296 xs / 4294967296 ^ k % 4294967296 := by
  by_cases hk : k < xs.length
  · have e := val_drop_div h k (by omega)
    rw [← P2_32] at e
    rw [← e, val_drop_cons _ hk]
    have := h.nth (by omega) k
    omega
  · rw [nth_ge (by omega)]
    have h1 := val_lt h
    have h2 : 4294967296 ^ xs.length ≤ 4294967296 ^ k := Nat.pow_le_pow_right (by omega) (by omega)
    rw [Nat.div_eq_of_lt (by omega)]

theorem bit_digit32 {V s : Nat} (hs : s < 32) : V % 4294967296 / 2 ^ s % 2 = V / 2 ^ s % 2 := by
  have e := Nat.mod_add_div V 4294967296
  have h2 : 4294967296 = 2 ^ s * (2 * 2 ^ (31 - s)) := by
    rw [show 2 * 2 ^ (31 - s) = 2 ^ (32 - s) by rw [show 32 - s = (31 - s) + 1 by omega, Nat.pow_succ]; omega, ← Nat.pow_add, show s + (32 - s) = 32 by omega]
  generalize V % 4294967296 = r at *
  generalize V / 4294967296 = u at *
  have h3 : V / 2 ^ s = r / 2 ^ s + 2 * (2 ^ (31 - s) * u) := by
    rw [← e, h2, Nat.mul_assoc, Nat.add_mul_div_left _ _ (Nat.pow_pos (by omega)), Nat.mul_assoc]
  rw [h3]; omega

theorem bitAt_digit32 {xs : List Nat} (h : Dg 4294967296 xs) (i : Nat) : nth xs (i / 32) / 2 ^ (i % 32) % 2 = bitAt (val 4294967296 xs) i := by
  unfold bitAt
  rw [nth_digit32 h, bit_digit32 (by omega), Nat.div_div_eq_div_mul, P2_32]
  unfold P2
  rw [← Nat.pow_add, show 32 * (i / 32) + i % 32 = i by omega]

theorem and_one (y : Nat) (hy : y < 4294967296) : bits .and .u32 (y : Int) 1 = ((y % 2 : Nat) : Int) := by
  have := u32_and_nat y 1 hy (by omega)
  rw [Nat.and_one_is_mod] at this
  exact this

set_option maxHeartbeats 1000000 in
set_option maxRecDepth 100000 in
theorem Bit_any {w : World} {v : Value} {n : Nat} (ha : IsNat w v n) (i : Nat) (hi : i < 9223372036854775808) (L : Nat) (hL : L ≤ 1073741824) (hn : n < P2 L) :
    Calls Try.prog 78 #[v, .int .i64 i] w (RetI w (bitAt n i : Nat)) := by
  obtain ⟨ao, k, cap, rfl, ia⟩ := ha.slice
  obtain ⟨hB, ka⟩ := pro1 w (.slice ao k cap)
  have hbL : blen n ≤ L := blen_le.2 hn
  have HN := Lib.hid hn
  have hd0 : decide ((i : Int) < 0) = false := decide_eq_false (by omega)
  by_cases h : blen n ≤ i
  · have HZ := Lib.hid (bitAt_ge (blen_le.1 h))
    have hd1 : decide (((blen n : Nat) : Int) ≤ (i : Int)) = true := decide_eq_true (by omega)
    clear hn
    go_enter Try.func78, Try.ntmps78
    go_wp2_with fail
    refine (bitLen_any (ia.below hB) L (by omega) HN.out).mono ?_
    rintro e wq ⟨rfl, hw⟩
    subst hw
    go_wp2
    go_ret
    exact ⟨by rw [HZ.out]; rfl, hB⟩
  · obtain ⟨xs, ⟨ao', k', cap', b, off, hv, hs⟩, hc, rfl⟩ := id ia
    cases hv
    have h0 : xs ≠ [] := by
      intro h0
      rw [h0] at h
      exact h (by simp [val, blen])
    have ⟨t1, t2, t3⟩ := blen_top hc h0
    rw [hs.len] at t1 t2 t3
    have hk0 : 0 < k := by rw [← hs.len]; exact List.length_pos_iff.2 h0
    have hkb := hs.max.1
    have hik : i / 32 < k := by omega
    have HB := Lib.hid (bitAt_digit32 hc.1 i)
    obtain rfl := hs.addr.resolve_right (by omega)
    have hc1 := (hs.below hB).cells (i / 32) hik
    have hx := hc.1.nth (by omega) (i / 32)
    have hs32 : i % 32 < 32 := Nat.mod_lt _ (by omega)
    clear t1 t2 t3 h0 hn
    have HI := Lib.hid (show i = 32 * (i / 32) + i % 32 by omega)
    generalize i / 32 = q at *
    generalize i % 32 = s at *
    generalize nth xs q = x at *
    have hd1 : decide (blen (val 4294967296 xs) ≤ 32 * q + s) = false := decide_eq_false (by rw [← HI.out]; exact h)
    have hd2 : decide (((blen (val 4294967296 xs) : Nat) : Int) ≤ 32 * (q : Int) + (s : Int)) = false := decide_eq_false (by have := HI.out; omega)
    rw [HI.out] at HB hd0 ⊢
    have hd00 : decide (32 * (q : Int) + (s : Int) < 0) = false := decide_eq_false (by omega)
    clear HI h hi hd0 i
    have hd3 : x / 2 ^ s ≤ 4294967295 := by have := Nat.div_le_self x (2 ^ s); omega
    have hqk : (q : Int) < (k : Int) := by omega
    have e1 : (32 * (q : Int) + s) / 32 = (q : Int) := by omega
    have e2 : (32 * (q : Int) + s) % 32 = (s : Int) := by omega
    have e4 := and_one (x / 2 ^ s) (by omega)
    have e5 : ((x / 2 ^ s : Nat) : Int) = (x : Int) / 2 ^ s := by simp
    rw [e5] at e4
    have hd9 : x / 2 ^ s % 2 < 2 := Nat.mod_lt _ (by omega)
    generalize x / 2 ^ s % 2 = d at *
    clear e5 hd3
    go_enter Try.func78, Try.ntmps78
    go_wp2_with fail
    refine (bitLen_any (ia.below hB) L (by omega) HN.out).mono ?_
    rintro e wq ⟨rfl, hw⟩
    subst hw
    go_wp2
    go_ret
    exact ⟨by rw [← HB.out]; rfl, hB⟩

end Go.Proofs.Ytppbhjhbaknidaa

/-
  The contracts of the program's Binomial and Pow, and of the specification's Binomial and Pow. Condition: numbers of at most 2^28 bits.
-/
set_option linter.unusedVariables false
set_option linter.unusedSimpArgs false
namespace Go.Proofs.Ytppbhjhbaknidaa
open Go.RowKit

theorem binom_P2 (n k : Nat) (h : n ≤ 4096) : binom n k < P2 4097 := by
  have h1 : binom n k ≤ P2 n := binom_le n k
  have h2 : P2 n ≤ P2 4096 := P2_mono h
  have h3 : P2 4097 = 2 * P2 4096 := P2_succ 4096
  have h4 := P2_pos 4096
  omega

set_option maxHeartbeats 1000000 in
set_option maxRecDepth 100000 in
theorem Binomial_any {w : World} (n k : Nat) (hn : n ≤ 4096) (hk : k < 9223372036854775808) :
    Calls Try.prog 69 #[.int .i64 n, .int .i64 k] w (RetE w (binom n k) 0) := by
  obtain ⟨hB, kr⟩ := pro1 w (.slice none 0 0)
  by_cases h : n < k
  · rw [binom_gt h]
    have d1 : decide ((n : Int) < (k : Int)) = true := decide_eq_true (by omega)
    go_enter Try.func69, Try.ntmps69
    go_wp2
    refine bodyPost_ret (v := .tuple #[.agg #[.slice none 0 0], .int .i64 (0 : Nat)]) (by simp [results, Try.results69, go_sem]) rfl ⟨_, rfl, IsNat.zero _, hB⟩
  · have d1 : decide ((n : Int) < (k : Int)) = false := decide_eq_false (by omega)
    have hmin : min (k : Int) ((n : Int) - (k : Int)) = ((min k (n - k) : Nat) : Int) := by omega
    have hmn : min k (n - k) ≤ n := by omega
    have HE := Lib.hid (binom_min (show k ≤ n by omega))
    have hk2 : k ≤ 4096 := by omega
    obtain ⟨L, hLL, hLB⟩ : ∃ L, L ≤ 5000 ∧ ∀ i, binom n i < P2 L := ⟨4097, by omega, fun i => binom_P2 n i hn⟩
    have HLB := Lib.hid hLB
    have H13 : Hid (∀ x, x ≤ 4096 → x < P2 13) := Lib.hid fun x hx => by unfold P2; omega
    generalize min k (n - k) = m at *
    clear h hLB hk
    go_enter Try.func69, Try.ntmps69
    go_wp2_with fail
    refine (words_any 1 _ (by omega) (by omega)).mono ?_
    rintro e w1 ⟨v1, rfl, i1, b⟩
    rw [show (1 : Int).toNat = 1 from rfl] at i1
    replace hB := nextB hB b
    replace kr := kr.below b
    clear b
    have i2 : IsN w1 v1 (binom n 0) := by rw [binom_zero]; exact i1
    obtain ⟨wo, hwo⟩ : ∃ wo : World, wo = w1 := ⟨_, rfl⟩
    rw [← hwo] at hB kr i2 ⊢
    clear hwo i1
    go_wp2
    clear hmin
    go_loopw [6, 7, 29] (fun v _ i wr => ∃ t : Nat, t ≤ m ∧ i = .int .i64 t ∧ IsN wr v (binom n t) ∧ Below wo.heap.size wo wr) (fun _ _ i _ => m - (intOf i).toNat)
    case atStart => exact ⟨0, Nat.zero_le _, rfl, i2, Below.refl _ _⟩
    case round =>
      obtain ⟨t, ht, rfl, iv, hb⟩ := hrel
      clear i2
      by_cases hlt : t < m
      · have hnt : ((n : Int) - (t : Int)) = ((n - t : Nat) : Int) := by omega
        have HDv := Lib.hid (binom_div n t)
        have HMul : Hid (binom n t * (n - t) < P2 (L + 13)) := Lib.hid (mul_lt_P2 (HLB.out t) (H13.out _ (by omega)))
        have hnt0 : n - t ≤ 4096 := by omega
        go_wp2_with fail
        refine (words_any ((n - t : Nat) : Int) _ (by omega) (by omega)).mono ?_
        rintro e w2 ⟨v2, rfl, i2, b⟩
        rw [Int.toNat_natCast] at i2
        replace iv := iv.below b
        replace hb := nextB hb b
        clear b
        clear hnt
        go_wp2_with fail
        refine (mul_any iv i2 (L + 13) (by omega) (lt_P2_mono (HLB.out t) (by omega)) (lt_P2_mono (H13.out _ hnt0) (by omega))).mono ?_
        rintro e w3 ⟨v3, rfl, i3, b⟩
        replace hb := nextB hb b
        clear b iv i2
        go_wp2_with fail
        refine (divWord_any i3 (t + 1) (by omega) (by omega) (L + 13) (by omega) HMul.out).mono ?_
        rintro e w4 ⟨v4, rfl, i4, b⟩
        rw [HDv.out] at i4
        replace hb := nextB hb b
        clear b i3
        go_wp2
        go_roundw
        case rel => exact ⟨t + 1, by omega, by go_num, i4, hb⟩
        case measure => simp [intOf]; omega
      · obtain rfl : t = m := by omega
        rw [HE.out] at iv
        obtain ⟨ao3, k3, cap3, rfl⟩ := iv.slice
        replace hB := nextB hB hb
        replace kr := kr.below hb
        have c1 := kr.cell
        have f1 := kr.free
        go_wp2
        refine bodyPost_ret (v := .tuple #[.agg #[.slice ao3 k3 cap3], .int .i64 (0 : Nat)]) (by simp [results, Try.results69, go_sem, c1]) rfl ⟨_, rfl, ⟨_, rfl, iv.setBx kr NoInt.one _⟩, hB.setCell (by simp) _⟩

set_option maxHeartbeats 1000000 in
set_option maxRecDepth 100000 in
theorem Binomial_err {w : World} (n k : Int) (h : n < 0 ∨ 4096 < n ∨ k < 0) :
    Calls Try.prog 69 #[.int .i64 n, .int .i64 k] w (RetE w 0 2) := by
  obtain ⟨hB, kr⟩ := pro1 w (.slice none 0 0)
  by_cases h1 : n < 0
  · go_enter Try.func69, Try.ntmps69
    go_wp2
    refine bodyPost_ret (v := .tuple #[.agg #[.slice none 0 0], .int .i64 (2 : Nat)]) (by simp [results, Try.results69, go_sem]) rfl ⟨_, rfl, IsNat.zero _, hB⟩
  · by_cases h2 : 4096 < n
    · go_enter Try.func69, Try.ntmps69
      go_wp2
      refine bodyPost_ret (v := .tuple #[.agg #[.slice none 0 0], .int .i64 (2 : Nat)]) (by simp [results, Try.results69, go_sem]) rfl ⟨_, rfl, IsNat.zero _, hB⟩
    · have h3 : k < 0 := by omega
      clear h
      go_enter Try.func69, Try.ntmps69
      go_wp2
      refine bodyPost_ret (v := .tuple #[.agg #[.slice none 0 0], .int .i64 (2 : Nat)]) (by simp [results, Try.results69, go_sem]) rfl ⟨_, rfl, IsNat.zero _, hB⟩

set_option maxHeartbeats 1000000 in
set_option maxRecDepth 100000 in
theorem binomialR_any {w : World} (n k : Nat) (hn : n ≤ 4096) (hk : k < 9223372036854775808) :
    Calls Try.prog 70 #[.int .i64 n, .int .i64 k] w (RetR w (binom n k)) := by
  by_cases h : n < k
  · rw [binom_gt h]
    have d1 : decide ((n : Int) < (k : Int)) = true := decide_eq_true (by omega)
    go_enter Try.func70, Try.ntmps70
    go_wp2
    go_ret
    exact ⟨_, rfl, IsR.zero _, Below.refl _ _⟩
  · have d1 : decide ((n : Int) < (k : Int)) = false := decide_eq_false (by omega)
    have hmin : min (k : Int) ((n : Int) - (k : Int)) = ((min k (n - k) : Nat) : Int) := by omega
    have hmn : min k (n - k) ≤ n := by omega
    have HE := Lib.hid (binom_min (show k ≤ n by omega))
    have hk2 : k ≤ 4096 := by omega
    obtain ⟨L, hLL, hLB⟩ : ∃ L, L ≤ 5000 ∧ ∀ i, binom n i < P2 L := ⟨4097, by omega, fun i => binom_P2 n i hn⟩
    have HLB := Lib.hid hLB
    have H13 : Hid (∀ x, x ≤ 4096 → x < P2 13) := Lib.hid fun x hx => by unfold P2; omega
    generalize min k (n - k) = m at *
    clear h hLB hk
    go_enter Try.func70, Try.ntmps70
    go_wp2_with fail
    refine (of_any 1 (by omega) _).mono ?_
    rintro e w1 ⟨v1, rfl, i1, hB⟩
    have i2 : IsR w1 v1 (binom n 0) := by rw [binom_zero]; exact i1
    obtain ⟨wo, hwo⟩ : ∃ wo : World, wo = w1 := ⟨_, rfl⟩
    rw [← hwo] at hB i2 ⊢
    clear hwo i1 hmin
    go_wp2
    go_loopw [5, 6] (fun v i wr => ∃ t : Nat, t ≤ m ∧ i = .int .i64 t ∧ IsR wr v (binom n t) ∧ Below wo.heap.size wo wr) (fun _ i _ => m - (intOf i).toNat)
    case atStart => exact ⟨0, Nat.zero_le _, rfl, i2, Below.refl _ _⟩
    case round =>
      obtain ⟨t, ht, rfl, iv, hb⟩ := hrel
      clear i2
      by_cases hlt : t < m
      · have hnt : ((n : Int) - (t : Int)) = ((n - t : Nat) : Int) := by omega
        have HDv := Lib.hid (binom_div n t)
        have HMul : Hid (binom n t * (n - t) < P2 (L + 13)) := Lib.hid (mul_lt_P2 (HLB.out t) (H13.out _ (by omega)))
        have hnt0 : n - t ≤ 4096 := by omega
        go_wp2_with fail
        refine (of_any (n - t) (by omega) _).mono ?_
        rintro e w2 ⟨v2, rfl, i2, b⟩
        replace iv := iv.below b
        replace hb := nextB hb b
        clear b
        clear hnt
        go_wp2_with fail
        refine (mulR_any iv i2 (L + 13) (by omega) (lt_P2_mono (HLB.out t) (by omega)) (lt_P2_mono (H13.out _ hnt0) (by omega))).mono ?_
        rintro e w3 ⟨v3, rfl, i3, b⟩
        replace hb := nextB hb b
        clear b iv i2
        go_wp2_with fail
        refine (small_any i3 (t + 1) (by omega) (by omega) (L + 13) (by omega) HMul.out).mono ?_
        rintro e w4 ⟨v4, rfl, i4, b, -⟩
        rw [HDv.out] at i4
        replace hb := nextB hb b
        clear b i3
        go_wp2
        go_roundw
        case rel => exact ⟨t + 1, by omega, by go_num, i4, hb⟩
        case measure => simp [intOf]; omega
      · obtain rfl : t = m := by omega
        rw [HE.out] at iv
        go_wp2
        go_ret
        exact ⟨_, rfl, iv, nextB hB hb⟩

end Go.Proofs.Ytppbhjhbaknidaa
