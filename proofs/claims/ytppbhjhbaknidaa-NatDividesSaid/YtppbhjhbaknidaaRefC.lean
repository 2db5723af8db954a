/-
  The contracts of the specification's Add and Sub. Condition: rows of at most 2^39 digits.
-/
import Derived.Test.YtppbhjhbaknidaaRefB
namespace Go.Proofs.Ytppbhjhbaknidaa
open Go.RowKit

theorem val_take_le (b : Nat) (xs : List Nat) (k : Nat) : val b (xs.take k) ≤ val b xs := by
  by_cases h : k ≤ xs.length
  · have := val_take_drop b xs k h
    omega
  · rw [val_take_ge b (by omega)]; exact Nat.le_refl _

structure AddR (xs ys zs : List Nat) (k c : Nat) : Prop where
  len : zs.length = k
  dg : Dg 65536 zs
  car : c ≤ 1
  eq : val 65536 zs + 65536 ^ k * c = val 65536 (xs.take k) + val 65536 (ys.take k)
  can : zs = [] ∨ 65536 ^ (zs.length - 1) ≤ val 65536 xs + val 65536 ys

theorem AddR.step {xs ys zs : List Nat} {k c : Nat} (h : AddR xs ys zs k c) (ha : Can 65536 xs) (hb : Can 65536 ys) (hr : k < xs.length ∨ k < ys.length ∨ 0 < c) :
    AddR xs ys (zs ++ [(c + (nth xs k + nth ys k)) % 65536]) (k + 1) ((c + (nth xs k + nth ys k)) / 65536) := by
  have h1 := ha.1.nth (by omega) k
  have h2 := hb.1.nth (by omega) k
  have h3 := h.car
  refine ⟨by simp [h.len], h.dg.snoc (Nat.mod_lt _ (by omega)), by omega, ?_, .inr ?_⟩
  · rw [val_snoc, val_take_succ, val_take_succ, Nat.pow_succ, Nat.mul_assoc, Nat.add_assoc, h.len, ← Nat.mul_add, Nat.mod_add_div, Nat.mul_add, Nat.mul_add]
    have := h.eq
    omega
  · rw [List.length_append, List.length_singleton, Nat.add_sub_cancel, h.len]
    rcases hr with hr | hr | hr
    · have g := ha.ge (by intro e; simp [e] at hr)
      have := Nat.pow_le_pow_right (n := 65536) (by omega) (show k ≤ xs.length - 1 by omega)
      omega
    · have g := hb.ge (by intro e; simp [e] at hr)
      have := Nat.pow_le_pow_right (n := 65536) (by omega) (show k ≤ ys.length - 1 by omega)
      omega
    · have e := h.eq
      have : c = 1 := by omega
      subst this
      have g1 := val_take_le 65536 xs k
      have g2 := val_take_le 65536 ys k
      omega

set_option maxHeartbeats 1000000 in
theorem addR_any {w : World} {va vb : Value} {m n : Nat} (ha : IsR w va m) (hb : IsR w vb n) (L : Nat) (hL : L ≤ 8589934592) (hm : m < P2 L) (hn : n < P2 L) :
    Calls Try.prog 56 #[va, vb] w (RetR w (m + n)) := by
  obtain ⟨xs, ha, hca, rfl⟩ := ha
  obtain ⟨ys, hb, hcb, rfl⟩ := hb
  have l1 := hca.len_R hm
  have l2 := hcb.len_R hn
  have ha' := id ha
  have hb' := id hb
  obtain ⟨ao, n, cap, b, off, rfl, hs⟩ := ha
  obtain ⟨ao2, n2, cap2, b2, off2, rfl, hs2⟩ := hb
  rw [hs.len] at l1
  rw [hs2.len] at l2
  clear hm hn
  have e1 := hs.len
  have e2 := hs2.len
  have E1 := Lib.hid e1
  have E2 := Lib.hid e2
  clear e1 e2
  go_enter Try.func56, Try.ntmps56
  go_wp2
  go_loopw [5, 6, 7] (fun o c i wr => ∃ (k cc : Nat) (zs : List Nat), i = .int .i64 k ∧ c = .int .i64 cc ∧ k ≤ n + n2 + 1 ∧ (k = n + n2 + 1 → cc = 0) ∧ AddR xs ys zs k cc ∧ Row wr w.heap.size .i64 3 o zs ∧ Below w.heap.size w wr)
    (fun _ c i _ => 2 * (n + n2 + 1 - (intOf i).toNat) + (intOf c).toNat)
  case atStart => exact ⟨0, 0, [], rfl, rfl, by omega, by omega, ⟨rfl, Dg.nil _, by omega, by simp [val], .inl rfl⟩, Row.nil _ _ _ _, Below.refl _ _⟩
  case round =>
    obtain ⟨k, cc, zs, rfl, rfl, hk, hkc, hinv, hrow, hbel⟩ := hrel
    have hsz := hbel.size
    have hcar := hinv.car
    have hzl : zs.length < 1099511627776 := by rw [hinv.len]; omega
    by_cases hr : k < n ∨ k < n2 ∨ 0 < cc
    · have hx := hca.1.nth (by omega) k
      have hy := hcb.1.nth (by omega) k
      have HI := Lib.hid (hinv.step hca hcb (by rw [E1.out, E2.out]; exact hr))
      have hcz : n + n2 ≤ k → nth xs k = 0 ∧ nth ys k = 0 := fun h => ⟨nth_ge (by rw [E1.out]; omega), nth_ge (by rw [E2.out]; omega)⟩
      have HZ := Lib.hid hcz
      have hkle : k ≤ n + n2 := by
        by_cases h : k = n + n2 + 1
        · have := hkc h; omega
        · omega
      have A1 : Calls Try.prog 104 #[.slice ao n cap, .int .i64 k] wr _ := at_any (ha'.below hbel) k (by omega)
      have A2 : Calls Try.prog 104 #[.slice ao2 n2 cap2, .int .i64 k] wr _ := at_any (hb'.below hbel) k (by omega)
      have B1 := Lib.hid A1
      have B2 := Lib.hid A2
      clear A1 A2 hcz hkc
      generalize hgx : nth xs k = x at *
      generalize hgy : nth ys k = y at *
      clear hgx hgy
      have hr' : k < n ∨ (n ≤ k ∧ k < n2) ∨ (n ≤ k ∧ n2 ≤ k ∧ 0 < cc) := by omega
      clear hr
      rcases hr' with hr | ⟨hr, hr2⟩ | ⟨hr, hr2, hr3⟩
      all_goals
        go_wp2_with fail
        refine B1.out.mono ?_
        rintro e w1 ⟨rfl, rfl⟩
        go_wp2_with fail
        refine B2.out.mono ?_
        rintro e w1 ⟨rfl, rfl⟩
        go_wp2_with (at_builtin; go_loud (refine wpList_append_row _ rfl _ _ 29 rfl w.heap.size 3 .i64 8 Try.underlying29 (by kernel_rfl) (by omega) _ zs _ ((cc + (x + y)) % 65536) (by rfl) hrow (by rfl) (by first | rfl | omega) hzl hsz ?_; intro v' w' hrow' hbel' _))
        go_roundw
        case rel => exact ⟨k + 1, (cc + (x + y)) / 65536, _, by go_num, by go_num, by omega, by intro h; have := HZ.out (by omega); omega, HI.out, hrow', hbel.trans hbel'⟩
        case measure => simp [intOf]; omega
    · have hc0 : cc = 0 := by omega
      subst hc0
      have hv : val 65536 zs = val 65536 xs + val 65536 ys := by
        have := hinv.eq
        rw [val_take_ge _ (by rw [E1.out]; omega), val_take_ge _ (by rw [E2.out]; omega)] at this
        omega
      have HV := Lib.hid hv
      clear hv
      go_wp2
      go_ret
      refine ⟨_, rfl, ⟨zs, hrow.sl (by omega) hinv.dg.wf16, can_of_ge (by omega) hinv.dg (by rw [HV.out]; exact hinv.can), HV.out⟩, hbel⟩

theorem Sl.heap {w w' : World} {K : IntKind} {v : Value} {xs : List Nat} (h : Sl w K v xs) (e : w'.heap = w.heap) : Sl w' K v xs := by
  obtain ⟨ao, n, cap, b, off, rfl, hs⟩ := h
  exact (hs.heap e).sl

theorem at_part {v : Value} {xs : List Nat} {w : World} (h : Sl w .i64 v xs) (i : Nat) (hi : i ≤ 4611686018427387904) :
    Hid (∀ w', w'.heap = w.heap → Calls Try.prog 104 #[v, .int .i64 i] w' fun e w'' => e = .returned (.int .i64 (nth xs i)) ∧ w'' = w') :=
  Lib.hid fun _ e => at_any (h.heap e) i hi

structure SubR (xs ys zs : List Nat) (k c : Nat) : Prop where
  len : zs.length = k
  dg : Dg 65536 zs
  car : c ≤ 1
  eq : val 65536 (xs.take k) + 65536 ^ k * c = val 65536 zs + val 65536 (ys.take k)

theorem SubR.step {xs ys zs : List Nat} {k c d c' : Nat} (h : SubR xs ys zs k c) (hc : c' ≤ 1) (hd : d < 65536) (he : d + (nth ys k + c) = nth xs k + 65536 * c') :
    SubR xs ys (zs ++ [d]) (k + 1) c' := by
  refine ⟨by simp [h.len], h.dg.snoc hd, hc, ?_⟩
  rw [val_snoc, val_take_succ, val_take_succ, Nat.pow_succ, Nat.mul_assoc, h.len]
  have e := h.eq
  have e2 : 65536 ^ k * (d + (nth ys k + c)) = 65536 ^ k * (nth xs k + 65536 * c') := by rw [he]
  rw [Nat.mul_add, Nat.mul_add, Nat.mul_add] at e2
  omega

theorem SubR.done {xs ys zs : List Nat} {k c : Nat} (h : SubR xs ys zs k c) (hx : xs.length = k) (hy : ys.length ≤ k) (hle : val 65536 ys ≤ val 65536 xs) :
    val 65536 zs = val 65536 xs - val 65536 ys := by
  have e := h.eq
  rw [val_take_ge _ (Nat.le_of_eq hx), val_take_ge _ hy] at e
  have h1 := val_lt h.dg
  rw [h.len] at h1
  have := h.car
  by_cases hc : c = 0
  · subst hc; omega
  · have : c = 1 := by omega
    subst this
    omega

set_option maxHeartbeats 1000000 in
theorem subR_any {w : World} {va vb : Value} {m n : Nat} (ha : IsR w va m) (hb : IsR w vb n) (L : Nat) (hL : L ≤ 8589934592) (hm : m < P2 L) (hmn : n ≤ m) :
    Calls Try.prog 57 #[va, vb] w (RetR w (m - n)) := by
  obtain ⟨xs, ha, hca, rfl⟩ := ha
  obtain ⟨ys, hb, hcb, rfl⟩ := hb
  have l1 := hca.len_R hm
  have l2 : ys.length ≤ xs.length := hcb.len_le (by omega) (Nat.lt_of_le_of_lt hmn (val_lt hca.1))
  have ha' := id ha
  have hb' := id hb
  obtain ⟨ao, n, cap, b, off, rfl, hs⟩ := ha
  obtain ⟨ao2, n2, cap2, b2, off2, rfl, hs2⟩ := hb
  have E1 := Lib.hid hs.len
  have E2 := Lib.hid hs2.len
  rw [E1.out] at l1 l2
  rw [E2.out] at l2
  have HM := Lib.hid hmn
  clear hm hmn
  go_enter Try.func57, Try.ntmps57
  go_wp2
  go_loopw [5, 6, 7, 8] (fun o c i _ wr => ∃ (k cc : Nat) (zs : List Nat), i = .int .i64 k ∧ c = .int .i64 cc ∧ k ≤ n ∧ SubR xs ys zs k cc ∧ Row wr w.heap.size .i64 3 o zs ∧ Below w.heap.size w wr)
    (fun _ _ i _ _ => n - (intOf i).toNat)
  case atStart => exact ⟨0, 0, [], rfl, rfl, by omega, ⟨rfl, Dg.nil _, by omega, by simp [val]⟩, Row.nil _ _ _ _, Below.refl _ _⟩
  case round =>
    obtain ⟨k, cc, zs, rfl, rfl, hk, hinv, hrow, hbel⟩ := hrel
    have hsz := hbel.size
    have hcar := hinv.car
    have hzl : zs.length < 1099511627776 := by rw [hinv.len]; omega
    by_cases hlt : k < n
    · have hx := hca.1.nth (by omega) k
      have hy := hcb.1.nth (by omega) k
      obtain rfl := hs.addr.resolve_right (by omega)
      have hc1 : wr.cell? ⟨b, off + k, none⟩ = some (.int .i64 (nth xs k)) := by
        rw [hbel.cell (p := ⟨b, off + k, none⟩) (hs.lt (by omega))]; exact hs.cells k hlt
      have B2 := at_part (hb'.below hbel) k (by omega)
      have HI := Lib.hid (fun d c' => hinv.step (d := d) (c' := c'))
      generalize hgx : nth xs k = x at *
      generalize hgy : nth ys k = y at *
      clear hgx hgy
      by_cases hneg : x < y + cc
      · have t1 : decide ((x : Int) - y - cc < 0) = true := decide_eq_true (by omega)
        go_wp2
        go_quiet ((go_at_call 104; (with_reducible refine Calls.quiet_of_same (B2.out _ ?_)); rfl))
        go_wp2_with (at_builtin; go_loud (refine wpList_append_row _ rfl _ _ 29 rfl w.heap.size 3 .i64 8 Try.underlying29 (by kernel_rfl) (by omega) _ zs _ (x + 65536 - y - cc) (by rfl) (hrow.keep (below_drewN' (Below.refl _ _) _) (Nat.le_refl _)) (by rfl) (by first | rfl | omega) hzl hsz ?_; intro v' w' hrow' hbel' _))
        go_roundw
        case rel => exact ⟨k + 1, 1, _, by go_num, by go_num, by omega, HI.out _ _ (by omega) (by omega) (by omega), hrow', (below_drewN' hbel _).trans hbel'⟩
        case measure => simp [intOf]; omega
      · have t1 : decide ((x : Int) - y - cc < 0) = false := decide_eq_false (by omega)
        go_wp2
        go_quiet ((go_at_call 104; (with_reducible refine Calls.quiet_of_same (B2.out _ ?_)); rfl))
        go_wp2_with (at_builtin; go_loud (refine wpList_append_row _ rfl _ _ 29 rfl w.heap.size 3 .i64 8 Try.underlying29 (by kernel_rfl) (by omega) _ zs _ (x - y - cc) (by rfl) (hrow.keep (below_drewN' (Below.refl _ _) _) (Nat.le_refl _)) (by rfl) (by first | rfl | omega) hzl hsz ?_; intro v' w' hrow' hbel' _))
        go_roundw
        case rel => exact ⟨k + 1, 0, _, by go_num, by go_num, by omega, HI.out _ _ (by omega) (by omega) (by omega), hrow', (below_drewN' hbel _).trans hbel'⟩
        case measure => simp [intOf]; omega
    · obtain rfl : k = n := by omega
      have HF := Lib.hid (hinv.done E1.out (by rw [E2.out]; omega) HM.out)
      go_wp2_with fail
      refine (trim_any _ zs _ (hrow.sl (by omega) hinv.dg.wf16)).mono ?_
      intro e w2 hr
      obtain ⟨v, rfl, hv, hb3⟩ := hr.numR hinv.dg HF.out hbel
      go_wp2
      go_ret
      exact ⟨_, rfl, hv, hb3⟩

end Go.Proofs.Ytppbhjhbaknidaa
