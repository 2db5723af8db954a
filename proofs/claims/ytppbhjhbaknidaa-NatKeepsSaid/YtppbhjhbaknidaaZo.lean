/-
  The contracts of the program's within, Cmp, Mul, Div, Add, Sub of fractions. Condition: numbers of at most 2^14 bits. The contracts of the program's Mul, Cmp, Div of fractions. Condition: numbers of at most 2^14 bits.
-/
import Derived.Test.YtppbhjhbaknidaaZn
set_option linter.unusedVariables false
set_option linter.unusedSimpArgs false

/-
  The contracts of the program's within, Cmp, Mul, Div, Add, Sub of fractions. Condition: numbers of at most 2^14 bits.
-/
set_option linter.unusedVariables false
set_option linter.unusedSimpArgs false
namespace Go.Proofs.Ytppbhjhbaknidaa
open Go.RowKit

theorem Fx.set1 {w : World} {R : Nat} {a b : Value} (h : Fx w R a b) (v : Value) : Fx (w.setCell ⟨R, 1, none⟩ v) R a v := (show Blk (w.setCell ⟨R, 1, none⟩ v) R #[a, v] 50 from h.blk.set 1 v).fx
theorem cell_set_ne {w : World} {R R' i j : Nat} {v : Value} (hne : R ≠ R') : (w.setCell ⟨R', j, none⟩ v).cell? ⟨R, i, none⟩ = w.cell? ⟨R, i, none⟩ := by
  simp only [World.cell?]
  rw [Below.heap_setCell _ _ _ _ hne]
theorem pro3f (w : World) (s t s' t' : Value) : Below w.heap.size w (((w.alloc (.cells #[s, t] 50)).alloc (.cells #[s', t'] 50)).alloc (.cells #[.slice none 0 0, .slice none 0 0] 50)) ∧
    Fx (((w.alloc (.cells #[s, t] 50)).alloc (.cells #[s', t'] 50)).alloc (.cells #[.slice none 0 0, .slice none 0 0] 50)) w.heap.size s t ∧
    Fx (((w.alloc (.cells #[s, t] 50)).alloc (.cells #[s', t'] 50)).alloc (.cells #[.slice none 0 0, .slice none 0 0] 50)) (w.heap.size + 1) s' t' ∧
    Fx (((w.alloc (.cells #[s, t] 50)).alloc (.cells #[s', t'] 50)).alloc (.cells #[.slice none 0 0, .slice none 0 0] 50)) (w.heap.size + 1 + 1) (.slice none 0 0) (.slice none 0 0) := by
  have hz : (w.alloc (.cells #[s, t] 50)).heap.size = w.heap.size + 1 := by simp
  have hz2 : ((w.alloc (.cells #[s, t] 50)).alloc (.cells #[s', t'] 50)).heap.size = w.heap.size + 1 + 1 := by simp
  obtain ⟨b1, k1⟩ := prof w s t
  obtain ⟨b2, k2⟩ := prof (w.alloc (.cells #[s, t] 50)) s' t'
  obtain ⟨b3, k3⟩ := prof ((w.alloc (.cells #[s, t] 50)).alloc (.cells #[s', t'] 50)) (.slice none 0 0) (.slice none 0 0)
  rw [hz] at k2
  rw [hz2] at k3
  exact ⟨nextB (nextB b1 b2) b3, (k1.below b2).below b3, k2.below b3, k3⟩

/-- The error of a fraction that may not fit. -/
def withinE (n d : Nat) : Nat := if n < P2 16384 ∧ d < P2 16384 then 0 else 3

set_option maxHeartbeats 1000000 in
theorem within_any {w : World} {f : Value} {n d : Nat} (hf : IsF w f n d) (L : Nat) (hL : L ≤ 1073741824) (hn : n < P2 L) (hd : d < P2 L) :
    Calls Try.prog 119 #[f] w (RetFE w n d (withinE n d)) := by
  obtain ⟨ao, k, cap, ao2, k2, cap2, rfl, ia, ib, h0⟩ := hf.slice
  obtain ⟨hB, kf⟩ := prof w (.slice ao k cap) (.slice ao2 k2 cap2)
  have hz : (w.alloc (.cells #[.slice ao k cap, .slice ao2 k2 cap2] 50)).heap.size = w.heap.size + 1 := by simp
  obtain ⟨hC, kr⟩ := prof (w.alloc (.cells #[.slice ao k cap, .slice ao2 k2 cap2] 50)) (.slice none 0 0) (.slice none 0 0)
  replace kf := kf.below hC
  replace hB := nextB hB hC
  rw [hz] at kr
  clear hz hC
  replace hf := hf.below hB
  replace ia := ia.below hB
  replace ib := ib.below hB
  have HN := Lib.hid hn
  have HD := Lib.hid hd
  have hbn := blen_le.2 hn
  have hbd := blen_le.2 hd
  have hnx : blen n ≤ 16384 ↔ n < P2 16384 := blen_le
  have hdx : blen d ≤ 16384 ↔ d < P2 16384 := blen_le
  clear hn hd
  have c0 := kf.cell0
  have c1 := kf.cell1
  by_cases h : n < P2 16384
  · have hd1 : decide ((16384 : Int) < (blen n : Int)) = false := decide_eq_false (by have := hnx.2 h; omega)
    by_cases h2 : d < P2 16384
    · have hd2 : decide ((16384 : Int) < (blen d : Int)) = false := decide_eq_false (by have := hdx.2 h2; omega)
      have HW := Lib.hid (show withinE n d = 0 from if_pos ⟨h, h2⟩)
      clear hnx hdx h h2
      go_enter Try.func119, Try.ntmps119
      go_wp2_with fail
      clear c0 c1
      obtain ⟨wo, hwo⟩ : ∃ wo : World, wo = (w.alloc (.cells #[.slice ao k cap, .slice ao2 k2 cap2] 50)).alloc (.cells #[.slice none 0 0, .slice none 0 0] 50) := ⟨_, rfl⟩
      rw [← hwo] at hB kf kr hf ia ib ⊢
      clear hwo
      refine (bitLen_any ia L (by omega) HN.out).mono ?_
      rintro e wz ⟨rfl, hw⟩
      subst hw
      have c0 := kf.cell0
      have c1 := kf.cell1
      go_wp2_with fail
      refine (den_any hf L hL HD.out).mono ?_
      rintro e w1 ⟨v1, rfl, i1, b⟩
      replace hB := nextB hB b
      replace ia := ia.below b
      replace ib := ib.below b
      replace kf := kf.below b
      replace kr := kr.below b
      clear b c0 c1
      have c0 := kf.cell0
      have c1 := kf.cell1
      go_wp2_with fail
      refine (bitLen_any i1 L (by omega) HD.out).mono ?_
      rintro e wy ⟨rfl, hw⟩
      subst hw
      clear c0 c1
      have c0 := kf.cell0
      have c1 := kf.cell1
      have e0 := kr.cell0
      have e1 := kr.cell1
      have f0 := kr.free0
      have f1 := kr.free1
      have kg := kr.set0 (.slice ao k cap)
      have d1 := kg.cell1
      have g1 := kg.free1
      have d0 := kg.cell0
      go_wp2
      refine bodyPost_ret (v := .tuple #[.agg #[.slice ao k cap, .slice ao2 k2 cap2], .int .i64 (0 : Nat)]) (by simp [results, Try.results119, go_sem, e0, e1, d0, d1]) rfl ⟨_, by rw [HW.out], by rw [HW.out, if_pos rfl, if_pos rfl]; exact IsF.of ((ia.setF kr NoInt.two 0 _).setF kg NoInt.two 1 _) ((ib.setF kr NoInt.two 0 _).setF kg NoInt.two 1 _) h0, (hB.setCell (by simp) _).setCell (by simp) _⟩
    · have hd2 : decide ((16384 : Int) < (blen d : Int)) = true := decide_eq_true (by have := mt hdx.1 h2; omega)
      have HW := Lib.hid (show withinE n d = 3 from if_neg (fun hh => h2 hh.2))
      clear hnx hdx h h2
      go_enter Try.func119, Try.ntmps119
      go_wp2_with fail
      clear c0 c1
      obtain ⟨wo, hwo⟩ : ∃ wo : World, wo = (w.alloc (.cells #[.slice ao k cap, .slice ao2 k2 cap2] 50)).alloc (.cells #[.slice none 0 0, .slice none 0 0] 50) := ⟨_, rfl⟩
      rw [← hwo] at hB kf kr hf ia ib ⊢
      clear hwo
      refine (bitLen_any ia L (by omega) HN.out).mono ?_
      rintro e wz ⟨rfl, hw⟩
      subst hw
      have c0 := kf.cell0
      have c1 := kf.cell1
      go_wp2_with fail
      refine (den_any hf L hL HD.out).mono ?_
      rintro e w1 ⟨v1, rfl, i1, b⟩
      replace hB := nextB hB b
      replace kr := kr.below b
      clear b c0 c1
      go_wp2_with fail
      refine (bitLen_any i1 L (by omega) HD.out).mono ?_
      rintro e wy ⟨rfl, hw⟩
      subst hw
      have e0 := kr.cell0
      have e1 := kr.cell1
      have f0 := kr.free0
      have f1 := kr.free1
      have kg := kr.set0 (.slice none 0 0)
      have d1 := kg.cell1
      have g1 := kg.free1
      have d0 := kg.cell0
      go_wp2
      refine bodyPost_ret (v := .tuple #[.agg #[.slice none 0 0, .slice none 0 0], .int .i64 (3 : Nat)]) (by simp [results, Try.results119, go_sem, e0, e1, d0, d1]) rfl ⟨_, by rw [HW.out], by rw [HW.out, if_neg (by omega), if_neg (by omega)]; exact IsF.zero _, (hB.setCell (by simp) _).setCell (by simp) _⟩
  · have hd1 : decide ((16384 : Int) < (blen n : Int)) = true := decide_eq_true (by have := mt hnx.1 h; omega)
    have HW := Lib.hid (show withinE n d = 3 from if_neg (fun hh => h hh.1))
    clear hnx hdx h
    go_enter Try.func119, Try.ntmps119
    go_wp2_with fail
    clear c0 c1
    obtain ⟨wo, hwo⟩ : ∃ wo : World, wo = (w.alloc (.cells #[.slice ao k cap, .slice ao2 k2 cap2] 50)).alloc (.cells #[.slice none 0 0, .slice none 0 0] 50) := ⟨_, rfl⟩
    rw [← hwo] at hB kf kr hf ia ib ⊢
    clear hwo
    refine (bitLen_any ia L (by omega) HN.out).mono ?_
    rintro e wz ⟨rfl, hw⟩
    subst hw
    have e0 := kr.cell0
    have e1 := kr.cell1
    have f0 := kr.free0
    have f1 := kr.free1
    have kg := kr.set0 (.slice none 0 0)
    have d1 := kg.cell1
    have g1 := kg.free1
    have d0 := kg.cell0
    go_wp2
    refine bodyPost_ret (v := .tuple #[.agg #[.slice none 0 0, .slice none 0 0], .int .i64 (3 : Nat)]) (by simp [results, Try.results119, go_sem, e0, e1, d0, d1]) rfl ⟨_, by rw [HW.out], by rw [HW.out, if_neg (by omega), if_neg (by omega)]; exact IsF.zero _, (hB.setCell (by simp) _).setCell (by simp) _⟩


end Go.Proofs.Ytppbhjhbaknidaa

/-
  The contracts of the program's Mul, Cmp, Div of fractions. Condition: numbers of at most 2^14 bits.
-/
set_option linter.unusedVariables false
set_option linter.unusedSimpArgs false
namespace Go.Proofs.Ytppbhjhbaknidaa
open Go.RowKit

theorem noInt_set {s t : Value} {a : Option Addr} {k c : Nat} (h : NoInt #[s, t]) : NoInt #[.slice a k c, t] := by
  intro i K z hh
  match i, hh with
  | 0, hh => simp at hh
  | 1, hh => exact h 1 K z hh
  | i + 2, hh => simp at hh
theorem fx_next {w1 w2 : World} {R : Nat} (h : ∃ s t, Fx w1 R s t ∧ NoInt #[s, t]) (bb : Below w1.heap.size w1 w2) : ∃ s t, Fx w2 R s t ∧ NoInt #[s, t] :=
  let ⟨s, t, k, n⟩ := h
  ⟨s, t, k.below bb, n⟩
theorem fs_call {w w1 w2 : World} {A B C D : Value} (h : w1.cell? ⟨w.heap.size, 0, none⟩ = some A ∧ w1.cell? ⟨w.heap.size, 1, none⟩ = some B ∧ w1.cell? ⟨w.heap.size + 1, 0, none⟩ = some C ∧ w1.cell? ⟨w.heap.size + 1, 1, none⟩ = some D ∧ (∃ s t, Fx w1 (w.heap.size + 1 + 1) s t ∧ NoInt #[s, t]) ∧ w.heap.size + 1 < w1.heap.size ∧ Below w.heap.size w w1)
    (bb : Below w1.heap.size w1 w2) : w2.cell? ⟨w.heap.size, 0, none⟩ = some A ∧ w2.cell? ⟨w.heap.size, 1, none⟩ = some B ∧ w2.cell? ⟨w.heap.size + 1, 0, none⟩ = some C ∧ w2.cell? ⟨w.heap.size + 1, 1, none⟩ = some D ∧ (∃ s t, Fx w2 (w.heap.size + 1 + 1) s t ∧ NoInt #[s, t]) ∧ w.heap.size + 1 < w2.heap.size ∧ Below w.heap.size w w2 := by
  obtain ⟨h1, h2, h3, h4, h5, h6, h7⟩ := h
  exact ⟨(bb.cell (p := ⟨w.heap.size, 0, none⟩) (show w.heap.size < w1.heap.size by omega)).trans h1, (bb.cell (p := ⟨w.heap.size, 1, none⟩) (show w.heap.size < w1.heap.size by omega)).trans h2, (bb.cell (p := ⟨w.heap.size + 1, 0, none⟩) h6).trans h3, (bb.cell (p := ⟨w.heap.size + 1, 1, none⟩) h6).trans h4, fx_next h5 bb, Nat.lt_of_lt_of_le h6 bb.size, nextB h7 bb⟩
theorem fs_call2 {w w1 w2 : World} {A B C D : Value} (h : w1.cell? ⟨w.heap.size, 0, none⟩ = some A ∧ w1.cell? ⟨w.heap.size, 1, none⟩ = some B ∧ w1.cell? ⟨w.heap.size + 1, 0, none⟩ = some C ∧ w1.cell? ⟨w.heap.size + 1, 1, none⟩ = some D ∧ w.heap.size + 1 < w1.heap.size ∧ Below w.heap.size w w1)
    (bb : Below w1.heap.size w1 w2) : w2.cell? ⟨w.heap.size, 0, none⟩ = some A ∧ w2.cell? ⟨w.heap.size, 1, none⟩ = some B ∧ w2.cell? ⟨w.heap.size + 1, 0, none⟩ = some C ∧ w2.cell? ⟨w.heap.size + 1, 1, none⟩ = some D ∧ w.heap.size + 1 < w2.heap.size ∧ Below w.heap.size w w2 := by
  obtain ⟨h1, h2, h3, h4, h6, h7⟩ := h
  exact ⟨(bb.cell (p := ⟨w.heap.size, 0, none⟩) (show w.heap.size < w1.heap.size by omega)).trans h1, (bb.cell (p := ⟨w.heap.size, 1, none⟩) (show w.heap.size < w1.heap.size by omega)).trans h2, (bb.cell (p := ⟨w.heap.size + 1, 0, none⟩) h6).trans h3, (bb.cell (p := ⟨w.heap.size + 1, 1, none⟩) h6).trans h4, Nat.lt_of_lt_of_le h6 bb.size, nextB h7 bb⟩
theorem fs_store {w w1 : World} {A B C D s t : Value} (u v : Value) (h : w1.cell? ⟨w.heap.size, 0, none⟩ = some A ∧ w1.cell? ⟨w.heap.size, 1, none⟩ = some B ∧ w1.cell? ⟨w.heap.size + 1, 0, none⟩ = some C ∧ w1.cell? ⟨w.heap.size + 1, 1, none⟩ = some D ∧ (∃ s t, Fx w1 (w.heap.size + 1 + 1) s t ∧ NoInt #[s, t]) ∧ w.heap.size + 1 < w1.heap.size ∧ Below w.heap.size w w1) (kx : Fx w1 (w.heap.size + 1 + 1) s t) (hn : NoInt #[u, v]) :
    (((w1.setCell ⟨w.heap.size + 1 + 1, 0, none⟩ u).setCell ⟨w.heap.size + 1 + 1, 1, none⟩ v).cell? ⟨w.heap.size, 0, none⟩ = some A ∧ ((w1.setCell ⟨w.heap.size + 1 + 1, 0, none⟩ u).setCell ⟨w.heap.size + 1 + 1, 1, none⟩ v).cell? ⟨w.heap.size, 1, none⟩ = some B ∧ ((w1.setCell ⟨w.heap.size + 1 + 1, 0, none⟩ u).setCell ⟨w.heap.size + 1 + 1, 1, none⟩ v).cell? ⟨w.heap.size + 1, 0, none⟩ = some C ∧ ((w1.setCell ⟨w.heap.size + 1 + 1, 0, none⟩ u).setCell ⟨w.heap.size + 1 + 1, 1, none⟩ v).cell? ⟨w.heap.size + 1, 1, none⟩ = some D ∧ (∃ s t, Fx ((w1.setCell ⟨w.heap.size + 1 + 1, 0, none⟩ u).setCell ⟨w.heap.size + 1 + 1, 1, none⟩ v) (w.heap.size + 1 + 1) s t ∧ NoInt #[s, t]) ∧ w.heap.size + 1 < ((w1.setCell ⟨w.heap.size + 1 + 1, 0, none⟩ u).setCell ⟨w.heap.size + 1 + 1, 1, none⟩ v).heap.size ∧ Below w.heap.size w ((w1.setCell ⟨w.heap.size + 1 + 1, 0, none⟩ u).setCell ⟨w.heap.size + 1 + 1, 1, none⟩ v)) := by
  obtain ⟨h1, h2, h3, h4, h5, h6, h7⟩ := h
  exact ⟨(cell_set_ne (by omega)).trans ((cell_set_ne (by omega)).trans h1), (cell_set_ne (by omega)).trans ((cell_set_ne (by omega)).trans h2), (cell_set_ne (by omega)).trans ((cell_set_ne (by omega)).trans h3), (cell_set_ne (by omega)).trans ((cell_set_ne (by omega)).trans h4),
    ⟨_, _, (kx.set0 _).set1 _, hn⟩, Nat.lt_of_lt_of_eq h6 (by simp), (h7.setCell (show w.heap.size ≤ w.heap.size + 1 + 1 by omega) _).setCell (show w.heap.size ≤ w.heap.size + 1 + 1 by omega) _⟩

set_option maxHeartbeats 4000000 in
set_option maxRecDepth 100000 in
theorem FMul_any {w : World} {f g : Value} {n d n' d' : Nat} (hf : IsF w f n d) (hg : IsF w g n' d') (L : Nat) (hL : L ≤ 16384) (hn : n < P2 L) (hd : d < P2 L) (hn' : n' < P2 L) (hd' : d' < P2 L) :
    Calls Try.prog 84 #[f, g] w (RetFE w ((n * n') / Nat.gcd (n * n') (d * d')) ((d * d') / Nat.gcd (n * n') (d * d')) (withinE ((n * n') / Nat.gcd (n * n') (d * d')) ((d * d') / Nat.gcd (n * n') (d * d')))) := by
  obtain ⟨ao, k, cap, ao2, k2, cap2, rfl, ia, ib, h0⟩ := hf.slice
  obtain ⟨ao3, k3, cap3, ao4, k4, cap4, rfl, ic, id, h1⟩ := hg.slice
  obtain ⟨hB, kf, kg, kr⟩ := pro3f w (.slice ao k cap) (.slice ao2 k2 cap2) (.slice ao3 k3 cap3) (.slice ao4 k4 cap4)
  have HN := Lib.hid hn
  have HD := Lib.hid hd
  have HN' := Lib.hid hn'
  have HD' := Lib.hid hd'
  have HDD := Lib.hid (show 0 < d * d' from Nat.mul_pos h0 h1)
  have HP := Lib.hid (show n * n' < P2 (L + L) from mul_lt_P2 hn hn')
  have HQ := Lib.hid (show d * d' < P2 (L + L) from mul_lt_P2 hd hd')
  have HP2 := Lib.hid (Nat.lt_of_le_of_lt (Nat.div_le_self (n * n') (Nat.gcd (n * n') (d * d'))) HP.out)
  have HQ2 := Lib.hid (Nat.lt_of_le_of_lt (Nat.div_le_self (d * d') (Nat.gcd (n * n') (d * d'))) HQ.out)
  clear hn hd hn' hd' ib id
  have c0 := kf.cell0
  have c1 := kf.cell1
  have c2 := kg.cell0
  have c3 := kg.cell1
  have hlt := kg.lt
  go_enter Try.func84, Try.ntmps84
  go_wp2_with fail
  obtain ⟨wo, hwo⟩ : ∃ wo : World, wo = ((w.alloc (.cells #[.slice ao k cap, .slice ao2 k2 cap2] 50)).alloc (.cells #[.slice ao3 k3 cap3, .slice ao4 k4 cap4] 50)).alloc (.cells #[.slice none 0 0, .slice none 0 0] 50) := ⟨_, rfl⟩
  rw [← hwo] at hB kr c0 c1 c2 c3 hlt ⊢
  clear hwo kf kg
  go_region_held3 (fun w' => w'.cell? ⟨w.heap.size, 0, none⟩ = some (.slice ao k cap) ∧ w'.cell? ⟨w.heap.size, 1, none⟩ = some (.slice ao2 k2 cap2) ∧ w'.cell? ⟨w.heap.size + 1, 0, none⟩ = some (.slice ao3 k3 cap3) ∧ w'.cell? ⟨w.heap.size + 1, 1, none⟩ = some (.slice ao4 k4 cap4) ∧ (∃ s t, Fx w' (w.heap.size + 1 + 1) s t ∧ NoInt #[s, t]) ∧ w.heap.size + 1 < w'.heap.size ∧ Below w.heap.size w w')
    (first
      | exact ⟨c0, c1, c2, c3, ⟨_, _, kr.below (Below.refl _ _).drew, NoInt.two⟩, hlt, hB.drew⟩
      | (go_split_ands; exact ⟨by assumption, by assumption, by assumption, by assumption, by assumption, by assumption, by assumption⟩)
      | (go_split_ands; exact fs_call ⟨by assumption, by assumption, by assumption, by assumption, by assumption, by assumption, by assumption⟩ bb)
      | (go_split_ands; exact fs_store _ _ ⟨by assumption, by assumption, by assumption, by assumption, by assumption, by assumption, by assumption⟩ kx NoInt.two))
    (first
      | (go_at_call 100; go_split_ands; (with_reducible refine (mul_any (ia.below (by assumption)) (ic.below (by assumption)) L (by omega) HN.out HN'.out).mono ?_); rintro e wq ⟨v1, rfl, i1, bb⟩; obtain ⟨s_, t_, kx, kn⟩ := fx_next (R := w.heap.size + 1 + 1) (by assumption) bb)
      | (go_at_call 100; go_split_ands; (with_reducible refine (mul_any i3 i4 L (by omega) HD.out HD'.out).mono ?_); rintro e wq ⟨v2, rfl, i2, bb⟩; replace i1 := i1.below bb; obtain ⟨s_, t_, kx, kn⟩ := fx_next (R := w.heap.size + 1 + 1) (by assumption) bb)
      | (go_at_call 109; go_split_ands; (with_reducible refine (den_any (hf.below (by assumption)) L (by omega) HD.out).mono ?_); rintro e wq ⟨v3, rfl, i3, bb⟩; replace i1 := i1.below bb; obtain ⟨s_, t_, kx, kn⟩ := fx_next (R := w.heap.size + 1 + 1) (by assumption) bb)
      | (go_at_call 109; go_split_ands; (with_reducible refine (den_any (hg.below (by assumption)) L (by omega) HD'.out).mono ?_); rintro e wq ⟨v4, rfl, i4, bb⟩; replace i1 := i1.below bb; replace i3 := i3.below bb; obtain ⟨s_, t_, kx, kn⟩ := fx_next (R := w.heap.size + 1 + 1) (by assumption) bb)
      | (go_at_call 108; go_split_ands; (with_reducible refine (lowest_any i1 i2 HDD.out (L + L) (by omega) HP.out HQ.out).mono ?_); rintro e wq ⟨v6, rfl, i6, bb⟩; obtain ⟨s_, t_, kx, kn⟩ := fx_next (R := w.heap.size + 1 + 1) (by assumption) bb)
      | (go_at_call 119; go_split_ands; (with_reducible refine (within_any i6 (L + L) (by omega) HP2.out HQ2.out).mono ?_); rintro e wq ⟨v7, rfl, i7, bb⟩; obtain ⟨ao7, k7, cap7, ao8, k8, cap8, rfl, i8, i9, h7⟩ := i7.slice; obtain ⟨s_, t_, kx, kn⟩ := fx_next (R := w.heap.size + 1 + 1) (by assumption) bb; have e0 := kx.cell0; have e1 := kx.cell1; have f0 := kx.free0; have f1 := kx.free1; have g0 := fun v => (kx.set0 v).cell1; have g1 := fun v => (kx.set0 v).free1))
  go_split_ands
  have hC := show Below w.heap.size w _ by assumption
  have d0 := ((kx.set0 (.slice ao7 k7 cap7)).set1 (.slice ao8 k8 cap8)).cell0
  have d1 := ((kx.set0 (.slice ao7 k7 cap7)).set1 (.slice ao8 k8 cap8)).cell1
  go_wp2
  refine bodyPost_ret (v := .tuple #[.agg #[.slice ao7 k7 cap7, .slice ao8 k8 cap8], .int .i64 _]) (by simp [results, Try.results84, go_sem, d0, d1]) rfl ⟨_, rfl, IsF.of ((i8.setF kx kn 0 _).setF (kx.set0 _) (noInt_set kn) 1 _) ((i9.setF kx kn 0 _).setF (kx.set0 _) (noInt_set kn) 1 _) h7, hC⟩

set_option maxHeartbeats 4000000 in
set_option maxRecDepth 100000 in
theorem FDiv_any {w : World} {f g : Value} {n d n' d' : Nat} (hf : IsF w f n d) (hg : IsF w g n' d') (hn0' : 0 < n') (L : Nat) (hL : L ≤ 16384) (hn : n < P2 L) (hd : d < P2 L) (hn' : n' < P2 L) (hd' : d' < P2 L) :
    Calls Try.prog 91 #[f, g] w (RetFE w ((n * d') / Nat.gcd (n * d') (d * n')) ((d * n') / Nat.gcd (n * d') (d * n')) (withinE ((n * d') / Nat.gcd (n * d') (d * n')) ((d * n') / Nat.gcd (n * d') (d * n')))) := by
  obtain ⟨ao, k, cap, ao2, k2, cap2, rfl, ia, ib, h0⟩ := hf.slice
  obtain ⟨ao3, k3, cap3, ao4, k4, cap4, rfl, ic, id, h1⟩ := hg.slice
  obtain ⟨hB, kf, kg, kr⟩ := pro3f w (.slice ao k cap) (.slice ao2 k2 cap2) (.slice ao3 k3 cap3) (.slice ao4 k4 cap4)
  have HN := Lib.hid hn
  have HD := Lib.hid hd
  have HN' := Lib.hid hn'
  have HD' := Lib.hid hd'
  have HDD := Lib.hid (show 0 < d * n' from Nat.mul_pos h0 hn0')
  have HP := Lib.hid (show n * d' < P2 (L + L) from mul_lt_P2 hn hd')
  have HQ := Lib.hid (show d * n' < P2 (L + L) from mul_lt_P2 hd hn')
  have HP2 := Lib.hid (Nat.lt_of_le_of_lt (Nat.div_le_self (n * d') (Nat.gcd (n * d') (d * n'))) HP.out)
  have HQ2 := Lib.hid (Nat.lt_of_le_of_lt (Nat.div_le_self (d * n') (Nat.gcd (n * d') (d * n'))) HQ.out)
  have HN0 := Lib.hid hn0'
  obtain ⟨ao', k', cap', hv, hk, -⟩ := ic.len
  cases hv
  have hk3 : ((k3 : Int) == 0) = false := by rw [beq_eq_false_iff_ne]; intro hh; have := hk.1 (by omega); omega
  clear hk hn0'
  clear hn hd hn' hd' ib id
  have c0 := kf.cell0
  have c1 := kf.cell1
  have c2 := kg.cell0
  have c3 := kg.cell1
  have hlt := kg.lt
  go_enter Try.func91, Try.ntmps91
  go_wp2_with fail
  obtain ⟨wo, hwo⟩ : ∃ wo : World, wo = ((w.alloc (.cells #[.slice ao k cap, .slice ao2 k2 cap2] 50)).alloc (.cells #[.slice ao3 k3 cap3, .slice ao4 k4 cap4] 50)).alloc (.cells #[.slice none 0 0, .slice none 0 0] 50) := ⟨_, rfl⟩
  rw [← hwo] at hB kr c0 c1 c2 c3 hlt ⊢
  clear hwo kf kg
  go_region_held3 (fun w' => w'.cell? ⟨w.heap.size, 0, none⟩ = some (.slice ao k cap) ∧ w'.cell? ⟨w.heap.size, 1, none⟩ = some (.slice ao2 k2 cap2) ∧ w'.cell? ⟨w.heap.size + 1, 0, none⟩ = some (.slice ao3 k3 cap3) ∧ w'.cell? ⟨w.heap.size + 1, 1, none⟩ = some (.slice ao4 k4 cap4) ∧ (∃ s t, Fx w' (w.heap.size + 1 + 1) s t ∧ NoInt #[s, t]) ∧ w.heap.size + 1 < w'.heap.size ∧ Below w.heap.size w w')
    (first
      | exact ⟨c0, c1, c2, c3, ⟨_, _, kr.below (Below.refl _ _).drew, NoInt.two⟩, hlt, hB.drew⟩
      | (go_split_ands; exact ⟨by assumption, by assumption, by assumption, by assumption, by assumption, by assumption, by assumption⟩)
      | (go_split_ands; exact fs_call ⟨by assumption, by assumption, by assumption, by assumption, by assumption, by assumption, by assumption⟩ bb)
      | (go_split_ands; exact fs_store _ _ ⟨by assumption, by assumption, by assumption, by assumption, by assumption, by assumption, by assumption⟩ kx NoInt.two))
    (first
      | (go_at_call 100; go_split_ands; (with_reducible refine (mul_any (ia.below (by assumption)) i4 L (by omega) HN.out HD'.out).mono ?_); rintro e wq ⟨v1, rfl, i1, bb⟩; obtain ⟨s_, t_, kx, kn⟩ := fx_next (R := w.heap.size + 1 + 1) (by assumption) bb)
      | (go_at_call 100; go_split_ands; (with_reducible refine (mul_any i3 (ic.below (by assumption)) L (by omega) HD.out HN'.out).mono ?_); rintro e wq ⟨v2, rfl, i2, bb⟩; replace i1 := i1.below bb; obtain ⟨s_, t_, kx, kn⟩ := fx_next (R := w.heap.size + 1 + 1) (by assumption) bb)
      | (go_at_call 109; go_split_ands; (with_reducible refine (den_any (hg.below (by assumption)) L (by omega) HD'.out).mono ?_); rintro e wq ⟨v4, rfl, i4, bb⟩; obtain ⟨s_, t_, kx, kn⟩ := fx_next (R := w.heap.size + 1 + 1) (by assumption) bb)
      | (go_at_call 109; go_split_ands; (with_reducible refine (den_any (hf.below (by assumption)) L (by omega) HD.out).mono ?_); rintro e wq ⟨v3, rfl, i3, bb⟩; replace i1 := i1.below bb; obtain ⟨s_, t_, kx, kn⟩ := fx_next (R := w.heap.size + 1 + 1) (by assumption) bb)
      | (go_at_call 108; go_split_ands; (with_reducible refine (lowest_any i1 i2 HDD.out (L + L) (by omega) HP.out HQ.out).mono ?_); rintro e wq ⟨v6, rfl, i6, bb⟩; obtain ⟨s_, t_, kx, kn⟩ := fx_next (R := w.heap.size + 1 + 1) (by assumption) bb)
      | (go_at_call 119; go_split_ands; (with_reducible refine (within_any i6 (L + L) (by omega) HP2.out HQ2.out).mono ?_); rintro e wq ⟨v7, rfl, i7, bb⟩; obtain ⟨ao7, k7, cap7, ao8, k8, cap8, rfl, i8, i9, h7⟩ := i7.slice; obtain ⟨s_, t_, kx, kn⟩ := fx_next (R := w.heap.size + 1 + 1) (by assumption) bb; have e0 := kx.cell0; have e1 := kx.cell1; have f0 := kx.free0; have f1 := kx.free1; have g0 := fun v => (kx.set0 v).cell1; have g1 := fun v => (kx.set0 v).free1))
  go_split_ands
  have hC := show Below w.heap.size w _ by assumption
  have d0 := ((kx.set0 (.slice ao7 k7 cap7)).set1 (.slice ao8 k8 cap8)).cell0
  have d1 := ((kx.set0 (.slice ao7 k7 cap7)).set1 (.slice ao8 k8 cap8)).cell1
  go_wp2
  refine bodyPost_ret (v := .tuple #[.agg #[.slice ao7 k7 cap7, .slice ao8 k8 cap8], .int .i64 _]) (by simp [results, Try.results91, go_sem, d0, d1]) rfl ⟨_, rfl, IsF.of ((i8.setF kx kn 0 _).setF (kx.set0 _) (noInt_set kn) 1 _) ((i9.setF kx kn 0 _).setF (kx.set0 _) (noInt_set kn) 1 _) h7, hC⟩

set_option maxHeartbeats 1000000 in
set_option maxRecDepth 100000 in
theorem FDiv_zero {w : World} {f g : Value} {n d d' : Nat} (hf : IsF w f n d) (hg : IsF w g 0 d') :
    Calls Try.prog 91 #[f, g] w (RetFE w 0 0 11) := by
  obtain ⟨ao, k, cap, ao2, k2, cap2, rfl, ia, ib, h0⟩ := hf.slice
  obtain ⟨ao3, k3, cap3, ao4, k4, cap4, rfl, ic, id, h1⟩ := hg.slice
  obtain ⟨ao', k', cap', hv, hk, -⟩ := ic.len
  cases hv
  obtain rfl := hk.2 rfl
  obtain ⟨hB, kf, kg, kr⟩ := pro3f w (.slice ao k cap) (.slice ao2 k2 cap2) (.slice ao3 0 cap3) (.slice ao4 k4 cap4)
  clear hk ia ib ic id h0 h1
  have c0 := kf.cell0
  have c1 := kf.cell1
  have c2 := kg.cell0
  have c3 := kg.cell1
  go_enter Try.func91, Try.ntmps91
  go_wp2
  refine bodyPost_ret (v := .tuple #[.agg #[.slice none 0 0, .slice none 0 0], .int .i64 (11 : Nat)]) (by simp [results, Try.results91, go_sem]) rfl ⟨_, rfl, IsF.zero _, hB⟩

set_option maxHeartbeats 4000000 in
set_option maxRecDepth 100000 in
theorem FCmp_any {w : World} {f g : Value} {n d n' d' : Nat} (hf : IsF w f n d) (hg : IsF w g n' d') (L : Nat) (hL : L ≤ 16384) (hn : n < P2 L) (hd : d < P2 L) (hn' : n' < P2 L) (hd' : d' < P2 L) :
    Calls Try.prog 63 #[f, g] w (RetI w (cmpI (n * d') (n' * d))) := by
  obtain ⟨ao, k, cap, ao2, k2, cap2, rfl, ia, ib, h0⟩ := hf.slice
  obtain ⟨ao3, k3, cap3, ao4, k4, cap4, rfl, ic, id, h1⟩ := hg.slice
  obtain ⟨hB, kf⟩ := prof w (.slice ao k cap) (.slice ao2 k2 cap2)
  have hz : (w.alloc (.cells #[.slice ao k cap, .slice ao2 k2 cap2] 50)).heap.size = w.heap.size + 1 := by simp
  obtain ⟨hC, kg⟩ := prof (w.alloc (.cells #[.slice ao k cap, .slice ao2 k2 cap2] 50)) (.slice ao3 k3 cap3) (.slice ao4 k4 cap4)
  replace kf := kf.below hC
  replace hB := nextB hB hC
  rw [hz] at kg
  have HN := Lib.hid hn
  have HD := Lib.hid hd
  have HN' := Lib.hid hn'
  have HD' := Lib.hid hd'
  clear hn hd hn' hd' ib id hz hC
  have c0 := kf.cell0
  have c1 := kf.cell1
  have c2 := kg.cell0
  have c3 := kg.cell1
  have hlt := kg.lt
  go_enter Try.func63, Try.ntmps63
  go_wp2_with fail
  obtain ⟨wo, hwo⟩ : ∃ wo : World, wo = (w.alloc (.cells #[.slice ao k cap, .slice ao2 k2 cap2] 50)).alloc (.cells #[.slice ao3 k3 cap3, .slice ao4 k4 cap4] 50) := ⟨_, rfl⟩
  rw [← hwo] at hB c0 c1 c2 c3 hlt ⊢
  clear hwo kf kg
  go_region_held3 (fun w' => w'.cell? ⟨w.heap.size, 0, none⟩ = some (.slice ao k cap) ∧ w'.cell? ⟨w.heap.size, 1, none⟩ = some (.slice ao2 k2 cap2) ∧ w'.cell? ⟨w.heap.size + 1, 0, none⟩ = some (.slice ao3 k3 cap3) ∧ w'.cell? ⟨w.heap.size + 1, 1, none⟩ = some (.slice ao4 k4 cap4) ∧ w.heap.size + 1 < w'.heap.size ∧ Below w.heap.size w w')
    (first
      | exact ⟨c0, c1, c2, c3, hlt, hB.drew⟩
      | (go_split_ands; exact ⟨by assumption, by assumption, by assumption, by assumption, by assumption, by assumption⟩)
      | (go_split_ands; exact fs_call2 ⟨by assumption, by assumption, by assumption, by assumption, by assumption, by assumption⟩ bb))
    (first
      | (go_at_call 100; go_split_ands; (with_reducible refine (mul_any (ia.below (by assumption)) i1 L (by omega) HN.out HD'.out).mono ?_); rintro e wq ⟨v2, rfl, i2, bb⟩)
      | (go_at_call 100; go_split_ands; (with_reducible refine (mul_any (ic.below (by assumption)) i3 L (by omega) HN'.out HD.out).mono ?_); rintro e wq ⟨v4, rfl, i4, bb⟩; replace i2 := i2.below bb)
      | (go_at_call 109; go_split_ands; (with_reducible refine (den_any (hg.below (by assumption)) L (by omega) HD'.out).mono ?_); rintro e wq ⟨v1, rfl, i1, bb⟩)
      | (go_at_call 109; go_split_ands; (with_reducible refine (den_any (hf.below (by assumption)) L (by omega) HD.out).mono ?_); rintro e wq ⟨v3, rfl, i3, bb⟩; replace i2 := i2.below bb)
      | (go_at_call 107; go_split_ands; (with_reducible refine (cmp_any i2 i4).mono ?_); rintro e wq ⟨rfl, bb⟩))
  go_split_ands
  have hC := show Below w.heap.size w _ by assumption
  go_wp2
  go_ret
  exact ⟨rfl, hC⟩

end Go.Proofs.Ytppbhjhbaknidaa
