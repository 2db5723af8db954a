/-
  The contract of the program's Add of fractions. Condition: numbers of at most 2^14 bits. The contract of the statements' half. Condition: at most 1000 digits. The contract of the program's Sub of fractions. Condition: numbers of at most 2^14 bits. The contracts of the specification's Cmp, Add, Sub, Mul, Div of fractions. Condition: numbers of at most 2^14 bits.
-/
import Derived.Test.YtppbhjhbaknidaaZo
set_option linter.unusedVariables false
set_option linter.unusedSimpArgs false

/-
  The contract of the program's Add of fractions. Condition: numbers of at most 2^14 bits.
-/
set_option linter.unusedVariables false
set_option linter.unusedSimpArgs false
namespace Go.Proofs.Ytppbhjhbaknidaa
open Go.RowKit

set_option maxHeartbeats 4000000 in
set_option maxRecDepth 100000 in
theorem FAdd_any {w : World} {f g : Value} {n d n' d' : Nat} (hf : IsF w f n d) (hg : IsF w g n' d') (L : Nat) (hL : L ≤ 16384) (hn : n < P2 L) (hd : d < P2 L) (hn' : n' < P2 L) (hd' : d' < P2 L) :
    Calls Try.prog 64 #[f, g] w (RetFE w ((n * d' + n' * d) / Nat.gcd (n * d' + n' * d) (d * d')) ((d * d') / Nat.gcd (n * d' + n' * d) (d * d')) (withinE ((n * d' + n' * d) / Nat.gcd (n * d' + n' * d) (d * d')) ((d * d') / Nat.gcd (n * d' + n' * d) (d * d')))) := by
  obtain ⟨ao, k, cap, ao2, k2, cap2, rfl, ia, ib, h0⟩ := hf.slice
  obtain ⟨ao3, k3, cap3, ao4, k4, cap4, rfl, ic, id, h1⟩ := hg.slice
  obtain ⟨hB, kf, kg, kr⟩ := pro3f w (.slice ao k cap) (.slice ao2 k2 cap2) (.slice ao3 k3 cap3) (.slice ao4 k4 cap4)
  have HN := Lib.hid hn
  have HD := Lib.hid hd
  have HN' := Lib.hid hn'
  have HD' := Lib.hid hd'
  have HDD := Lib.hid (show 0 < d * d' from Nat.mul_pos h0 h1)
  have HA := Lib.hid (mul_lt_P2 hn hd')
  have HB := Lib.hid (mul_lt_P2 hn' hd)
  have HP := Lib.hid (show n * d' + n' * d < P2 (L + L + 1) from add_lt_P2 (mul_lt_P2 hn hd') (mul_lt_P2 hn' hd))
  have HQ := Lib.hid (show d * d' < P2 (L + L + 1) from lt_P2_mono (mul_lt_P2 hd hd') (by omega))
  have HP2 := Lib.hid (Nat.lt_of_le_of_lt (Nat.div_le_self (n * d' + n' * d) (Nat.gcd (n * d' + n' * d) (d * d'))) HP.out)
  have HQ2 := Lib.hid (Nat.lt_of_le_of_lt (Nat.div_le_self (d * d') (Nat.gcd (n * d' + n' * d) (d * d'))) HQ.out)
  clear hn hd hn' hd' ib id
  have c0 := kf.cell0
  have c1 := kf.cell1
  have c2 := kg.cell0
  have c3 := kg.cell1
  have hlt := kg.lt
  go_enter Try.func64, Try.ntmps64
  go_wp2_with fail
  obtain ⟨wo, hwo⟩ : ∃ wo : World, wo = ((w.alloc (.cells #[.slice ao k cap, .slice ao2 k2 cap2] 50)).alloc (.cells #[.slice ao3 k3 cap3, .slice ao4 k4 cap4] 50)).alloc (.cells #[.slice none 0 0, .slice none 0 0] 50) := ⟨_, rfl⟩
  rw [← hwo] at hB kf kg kr c0 c1 c2 c3 hlt ⊢
  clear hwo
  go_region_held3 (fun w' => w'.cell? ⟨w.heap.size, 0, none⟩ = some (.slice ao k cap) ∧ w'.cell? ⟨w.heap.size, 1, none⟩ = some (.slice ao2 k2 cap2) ∧ w'.cell? ⟨w.heap.size + 1, 0, none⟩ = some (.slice ao3 k3 cap3) ∧ w'.cell? ⟨w.heap.size + 1, 1, none⟩ = some (.slice ao4 k4 cap4) ∧ (∃ s t, Fx w' (w.heap.size + 1 + 1) s t ∧ NoInt #[s, t]) ∧ w.heap.size + 1 < w'.heap.size ∧ Below w.heap.size w w')
    (first
      | exact ⟨c0, c1, c2, c3, ⟨_, _, kr.below (Below.refl _ _).drew, NoInt.two⟩, hlt, hB.drew⟩
      | (go_split_ands; exact ⟨by assumption, by assumption, by assumption, by assumption, by assumption, by assumption, by assumption⟩)
      | (go_split_ands; exact fs_call ⟨by assumption, by assumption, by assumption, by assumption, by assumption, by assumption, by assumption⟩ bb)
      | (go_split_ands; exact fs_store _ _ ⟨by assumption, by assumption, by assumption, by assumption, by assumption, by assumption, by assumption⟩ kx NoInt.two))
    (first
      | (go_at_call 109; go_split_ands; (with_reducible refine (den_any (hf.below (by assumption)) L (by omega) HD.out).mono ?_); rintro e wq ⟨v3, rfl, i3, bb⟩; obtain ⟨s_, t_, kx, kn⟩ := fx_next (R := w.heap.size + 1 + 1) (by assumption) bb)
      | (go_at_call 109; go_split_ands; (with_reducible refine (den_any (hg.below (by assumption)) L (by omega) HD'.out).mono ?_); rintro e wq ⟨v4, rfl, i4, bb⟩; replace i3 := i3.below bb; obtain ⟨s_, t_, kx, kn⟩ := fx_next (R := w.heap.size + 1 + 1) (by assumption) bb))
  go_split_ands
  have hB2 := show Below w.heap.size w wq by assumption
  have hlt2 := show w.heap.size + 1 < wq.heap.size by assumption
  obtain ⟨wy, hwy⟩ : ∃ w_ : World, w_ = wq := ⟨_, rfl⟩
  have e0 := show wq.cell? ⟨w.heap.size, 0, none⟩ = some (.slice ao k cap) by assumption
  have e1 := show wq.cell? ⟨w.heap.size, 1, none⟩ = some (.slice ao2 k2 cap2) by assumption
  have e2 := show wq.cell? ⟨w.heap.size + 1, 0, none⟩ = some (.slice ao3 k3 cap3) by assumption
  have e3 := show wq.cell? ⟨w.heap.size + 1, 1, none⟩ = some (.slice ao4 k4 cap4) by assumption
  rw [← hwy] at hB2 hlt2 i3 i4 kx e0 e1 e2 e3 ⊢
  clear hwy hB hlt c0 c1 c2 c3 kr kf kg
  have hB := hB2
  have hlt := hlt2
  have c0 := e0
  have c1 := e1
  have c2 := e2
  have c3 := e3
  clear hB2 hlt2 e0 e1 e2 e3
  have j3 := i3.below (show Below wy.heap.size wy wy.drew from (Below.refl _ _).drew)
  have j4 := i4.below (show Below wy.heap.size wy wy.drew from (Below.refl _ _).drew)
  clear i3 i4
  have kr := kx
  have knr := kn
  clear kx kn
  go_wp2
  go_region_held3 (fun w' => w'.cell? ⟨w.heap.size, 0, none⟩ = some (.slice ao k cap) ∧ w'.cell? ⟨w.heap.size, 1, none⟩ = some (.slice ao2 k2 cap2) ∧ w'.cell? ⟨w.heap.size + 1, 0, none⟩ = some (.slice ao3 k3 cap3) ∧ w'.cell? ⟨w.heap.size + 1, 1, none⟩ = some (.slice ao4 k4 cap4) ∧ (∃ s t, Fx w' (w.heap.size + 1 + 1) s t ∧ NoInt #[s, t]) ∧ w.heap.size + 1 < w'.heap.size ∧ Below w.heap.size w w')
    (first
      | exact ⟨c0, c1, c2, c3, ⟨_, _, kr.below (Below.refl _ _).drew, knr⟩, hlt, hB.drew⟩
      | (go_split_ands; exact ⟨by assumption, by assumption, by assumption, by assumption, by assumption, by assumption, by assumption⟩)
      | (go_split_ands; exact fs_call ⟨by assumption, by assumption, by assumption, by assumption, by assumption, by assumption, by assumption⟩ bb)
      | (go_split_ands; exact fs_store _ _ ⟨by assumption, by assumption, by assumption, by assumption, by assumption, by assumption, by assumption⟩ kx NoInt.two))
    (first
      | (go_at_call 100; go_split_ands; (with_reducible refine (mul_any (ia.below (by assumption)) j4 L (by omega) HN.out HD'.out).mono ?_); rintro e wq ⟨v1, rfl, i1, bb⟩; replace j3 := j3.below bb; replace j4 := j4.below bb; obtain ⟨s_, t_, kx, kn⟩ := fx_next (R := w.heap.size + 1 + 1) (by assumption) bb)
      | (go_at_call 100; go_split_ands; (with_reducible refine (mul_any (ic.below (by assumption)) j3 L (by omega) HN'.out HD.out).mono ?_); rintro e wq ⟨v5, rfl, i5, bb⟩; replace j3 := j3.below bb; replace j4 := j4.below bb; replace i1 := i1.below bb; obtain ⟨s_, t_, kx, kn⟩ := fx_next (R := w.heap.size + 1 + 1) (by assumption) bb)
      | (go_at_call 100; go_split_ands; (with_reducible refine (mul_any j3 j4 L (by omega) HD.out HD'.out).mono ?_); rintro e wq ⟨v2, rfl, i2, bb⟩; replace i6 := i6.below bb; obtain ⟨s_, t_, kx, kn⟩ := fx_next (R := w.heap.size + 1 + 1) (by assumption) bb)
      | (go_at_call 99; go_split_ands; (with_reducible refine (add_any i1 i5 (L + L) (by omega) HA.out HB.out).mono ?_); rintro e wq ⟨v6, rfl, i6, bb⟩; replace j3 := j3.below bb; replace j4 := j4.below bb; obtain ⟨s_, t_, kx, kn⟩ := fx_next (R := w.heap.size + 1 + 1) (by assumption) bb)
      | (go_at_call 108; go_split_ands; (with_reducible refine (lowest_any i6 i2 HDD.out (L + L + 1) (by omega) HP.out HQ.out).mono ?_); rintro e wq ⟨v7, rfl, i7, bb⟩; obtain ⟨s_, t_, kx, kn⟩ := fx_next (R := w.heap.size + 1 + 1) (by assumption) bb)
      | (go_at_call 119; go_split_ands; (with_reducible refine (within_any i7 (L + L + 1) (by omega) HP2.out HQ2.out).mono ?_); rintro e wq ⟨v8, rfl, i8, bb⟩; obtain ⟨ao7, k7, cap7, ao8, k8, cap8, rfl, i9, i10, h7⟩ := i8.slice; obtain ⟨s_, t_, kx, kn⟩ := fx_next (R := w.heap.size + 1 + 1) (by assumption) bb; have e0 := kx.cell0; have e1 := kx.cell1; have f0 := kx.free0; have f1 := kx.free1; have g0 := fun v => (kx.set0 v).cell1; have g1 := fun v => (kx.set0 v).free1))
  go_split_ands
  have hC := show Below w.heap.size w _ by assumption
  have d0 := ((kx.set0 (.slice ao7 k7 cap7)).set1 (.slice ao8 k8 cap8)).cell0
  have d1 := ((kx.set0 (.slice ao7 k7 cap7)).set1 (.slice ao8 k8 cap8)).cell1
  go_wp2
  refine bodyPost_ret (v := .tuple #[.agg #[.slice ao7 k7 cap7, .slice ao8 k8 cap8], .int .i64 _]) (by simp [results, Try.results64, go_sem, d0, d1]) rfl ⟨_, rfl, IsF.of ((i9.setF kx kn 0 _).setF (kx.set0 _) (noInt_set kn) 1 _) ((i10.setF kx kn 0 _).setF (kx.set0 _) (noInt_set kn) 1 _) h7, hC⟩

end Go.Proofs.Ytppbhjhbaknidaa

/-
  The contract of the statements' half. Condition: at most 1000 digits.
-/
set_option linter.unusedVariables false
set_option linter.unusedSimpArgs false
namespace Go.Proofs.Ytppbhjhbaknidaa
open Go.RowKit

theorem Gx.set1 {w : World} {R : Nat} {a b : Value} (h : Gx w R a b) (v : Value) : Gx (w.setCell ⟨R, 1, none⟩ v) R a v := (show Blk (w.setCell ⟨R, 1, none⟩ v) R #[a, v] 55 from h.blk.set 1 v).gx
theorem Gx.setO {w : World} {R R' : Nat} {a b : Value} (h : Gx w R a b) (hne : R ≠ R') (i : Nat) (v : Value) : Gx (w.setCell ⟨R', i, none⟩ v) R a b := (h.blk.setOther i v hne).gx
theorem Fx.setO {w : World} {R R' : Nat} {a b : Value} (h : Fx w R a b) (hne : R ≠ R') (i : Nat) (v : Value) : Fx (w.setCell ⟨R', i, none⟩ v) R a b := (h.blk.setOther i v hne).fx
theorem gx_next {w1 w2 : World} {R : Nat} (h : ∃ s t, Gx w1 R s t ∧ NoInt #[s, t]) (bb : Below w1.heap.size w1 w2) : ∃ s t, Gx w2 R s t ∧ NoInt #[s, t] :=
  let ⟨s, t, k, n⟩ := h
  ⟨s, t, k.below bb, n⟩
theorem IsN.setG {w : World} {s a b : Value} {n R : Nat} (h : IsN w s n) (hb : Gx w R a b) (hn : NoInt #[a, b]) (i : Nat) (v : Value) : IsN (w.setCell ⟨R, i, none⟩ v) s n := h.setBlk hb.blk hn i v
theorem IsR.setF {w : World} {s a b : Value} {n R : Nat} (h : IsR w s n) (hb : Fx w R a b) (hn : NoInt #[a, b]) (i : Nat) (v : Value) : IsR (w.setCell ⟨R, i, none⟩ v) s n := by
  obtain ⟨xs, h1, h2, h3⟩ := h
  exact ⟨xs, h1.setBlk hb.blk hn i v, h2, h3⟩
theorem hs_call {w w1 w2 : World} {R : Nat} {A B : Value} (h : w1.cell? ⟨R, 0, none⟩ = some A ∧ w1.cell? ⟨R, 1, none⟩ = some B ∧ (∃ s t, Fx w1 w.heap.size s t ∧ NoInt #[s, t]) ∧ (∃ s t, Gx w1 (w.heap.size + 1) s t ∧ NoInt #[s, t]) ∧ R < w1.heap.size ∧ Below w.heap.size w w1) (bb : Below w1.heap.size w1 w2) : w2.cell? ⟨R, 0, none⟩ = some A ∧ w2.cell? ⟨R, 1, none⟩ = some B ∧ (∃ s t, Fx w2 w.heap.size s t ∧ NoInt #[s, t]) ∧ (∃ s t, Gx w2 (w.heap.size + 1) s t ∧ NoInt #[s, t]) ∧ R < w2.heap.size ∧ Below w.heap.size w w2 := by
  obtain ⟨h1, h2, h5, h6, h7, h8⟩ := h
  exact ⟨(bb.cell (p := ⟨R, 0, none⟩) h7).trans h1, (bb.cell (p := ⟨R, 1, none⟩) h7).trans h2, fx_next h5 bb, gx_next h6 bb, Nat.lt_of_lt_of_le h7 bb.size, nextB h8 bb⟩
theorem hs_f {w w1 : World} {R : Nat} {A B u v s t s' t' : Value} (hR : w.heap.size + 1 < R) (h : w1.cell? ⟨R, 0, none⟩ = some A ∧ w1.cell? ⟨R, 1, none⟩ = some B ∧ (∃ s t, Fx w1 w.heap.size s t ∧ NoInt #[s, t]) ∧ (∃ s t, Gx w1 (w.heap.size + 1) s t ∧ NoInt #[s, t]) ∧ R < w1.heap.size ∧ Below w.heap.size w w1) (kx : Fx w1 w.heap.size s t) (ky : Gx w1 (w.heap.size + 1) s' t') (hk : NoInt #[s', t']) (hn : NoInt #[u, v]) :
    ((w1.setCell ⟨w.heap.size, 0, none⟩ u).setCell ⟨w.heap.size, 1, none⟩ v).cell? ⟨R, 0, none⟩ = some A ∧ ((w1.setCell ⟨w.heap.size, 0, none⟩ u).setCell ⟨w.heap.size, 1, none⟩ v).cell? ⟨R, 1, none⟩ = some B ∧ (∃ s t, Fx ((w1.setCell ⟨w.heap.size, 0, none⟩ u).setCell ⟨w.heap.size, 1, none⟩ v) w.heap.size s t ∧ NoInt #[s, t]) ∧ (∃ s t, Gx ((w1.setCell ⟨w.heap.size, 0, none⟩ u).setCell ⟨w.heap.size, 1, none⟩ v) (w.heap.size + 1) s t ∧ NoInt #[s, t]) ∧ R < ((w1.setCell ⟨w.heap.size, 0, none⟩ u).setCell ⟨w.heap.size, 1, none⟩ v).heap.size ∧ Below w.heap.size w ((w1.setCell ⟨w.heap.size, 0, none⟩ u).setCell ⟨w.heap.size, 1, none⟩ v) := by
  obtain ⟨h1, h2, h5, h6, h7, h8⟩ := h
  exact ⟨(cell_set_ne (by omega)).trans ((cell_set_ne (by omega)).trans h1), (cell_set_ne (by omega)).trans ((cell_set_ne (by omega)).trans h2), ⟨_, _, (kx.set0 _).set1 _, hn⟩, ⟨_, _, (ky.setO (by omega) _ _).setO (by omega) _ _, hk⟩, Nat.lt_of_lt_of_eq h7 (by simp),
    (h8.setCell (p := ⟨w.heap.size, 0, none⟩) (Nat.le_refl _) _).setCell (p := ⟨w.heap.size, 1, none⟩) (Nat.le_refl _) _⟩
theorem hs_g {w w1 : World} {R : Nat} {A B u v s t s' t' : Value} (hR : w.heap.size + 1 < R) (h : w1.cell? ⟨R, 0, none⟩ = some A ∧ w1.cell? ⟨R, 1, none⟩ = some B ∧ (∃ s t, Fx w1 w.heap.size s t ∧ NoInt #[s, t]) ∧ (∃ s t, Gx w1 (w.heap.size + 1) s t ∧ NoInt #[s, t]) ∧ R < w1.heap.size ∧ Below w.heap.size w w1) (kx : Fx w1 w.heap.size s t) (hk : NoInt #[s, t]) (ky : Gx w1 (w.heap.size + 1) s' t') (hn : NoInt #[u, v]) :
    ((w1.setCell ⟨w.heap.size + 1, 0, none⟩ u).setCell ⟨w.heap.size + 1, 1, none⟩ v).cell? ⟨R, 0, none⟩ = some A ∧ ((w1.setCell ⟨w.heap.size + 1, 0, none⟩ u).setCell ⟨w.heap.size + 1, 1, none⟩ v).cell? ⟨R, 1, none⟩ = some B ∧ (∃ s t, Fx ((w1.setCell ⟨w.heap.size + 1, 0, none⟩ u).setCell ⟨w.heap.size + 1, 1, none⟩ v) w.heap.size s t ∧ NoInt #[s, t]) ∧ (∃ s t, Gx ((w1.setCell ⟨w.heap.size + 1, 0, none⟩ u).setCell ⟨w.heap.size + 1, 1, none⟩ v) (w.heap.size + 1) s t ∧ NoInt #[s, t]) ∧ R < ((w1.setCell ⟨w.heap.size + 1, 0, none⟩ u).setCell ⟨w.heap.size + 1, 1, none⟩ v).heap.size ∧ Below w.heap.size w ((w1.setCell ⟨w.heap.size + 1, 0, none⟩ u).setCell ⟨w.heap.size + 1, 1, none⟩ v) := by
  obtain ⟨h1, h2, h5, h6, h7, h8⟩ := h
  exact ⟨(cell_set_ne (by omega)).trans ((cell_set_ne (by omega)).trans h1), (cell_set_ne (by omega)).trans ((cell_set_ne (by omega)).trans h2), ⟨_, _, (kx.setO (by omega) _ _).setO (by omega) _ _, hk⟩, ⟨_, _, (ky.set0 _).set1 _, hn⟩, Nat.lt_of_lt_of_eq h7 (by simp),
    (h8.setCell (p := ⟨w.heap.size + 1, 0, none⟩) (Nat.le_succ _) _).setCell (p := ⟨w.heap.size + 1, 1, none⟩) (Nat.le_succ _) _⟩

/-- What half returns: a fraction in lowest terms, below 2^M, and the specification's; false with 0 by 1. -/
def RetH (w : World) (M : Nat) (e : Ending) (w' : World) : Prop := ∃ (ok : Bool) (p q : Nat) (f : Value) (ao ao2 : Option Addr) (k cap k2 cap2 : Nat), e = .returned (.tuple #[f, .agg #[.slice ao k cap, .slice ao2 k2 cap2], .bool ok]) ∧ Hid (0 < q ∧ Nat.gcd p q = 1 ∧ p < P2 M ∧ q < P2 M) ∧ IsF w' f p q ∧
  (ok = true → IsG w' (.agg #[.slice ao k cap, .slice ao2 k2 cap2]) p q) ∧ Below w.heap.size w w'

theorem low_facts {c d M : Nat} (hd : 0 < d) (h1 : c < P2 M) (h2 : d < P2 M) : 0 < d / Nat.gcd c d ∧ Nat.gcd (c / Nat.gcd c d) (d / Nat.gcd c d) = 1 ∧ c / Nat.gcd c d < P2 M ∧ d / Nat.gcd c d < P2 M := by
  have hg := Nat.gcd_pos_of_pos_right c hd
  refine ⟨gcd_div_pos hd, ?_, Nat.lt_of_le_of_lt (Nat.div_le_self _ _) h1, Nat.lt_of_le_of_lt (Nat.div_le_self _ _) h2⟩
  rw [Nat.gcd_div (Nat.gcd_dvd_left c d) (Nat.gcd_dvd_right c d), Nat.div_self hg]

set_option maxHeartbeats 8000000 in
set_option maxRecDepth 100000 in
theorem half_any {w : World} {va vb : Value} (ia : In16 w va) (ib : In16 w vb) (most : Nat) (hm0 : 1 ≤ most) (hm : most ≤ 1000) :
    Calls Try.prog 62 #[va, vb, .int .i64 most] w (RetH w (16 * most)) := by
  obtain ⟨hB, kf⟩ := prof w (.slice none 0 0) (.slice none 0 0)
  have hz : (w.alloc (.cells #[.slice none 0 0, .slice none 0 0] 50)).heap.size = w.heap.size + 1 := by simp
  obtain ⟨hC, kg⟩ := prog' (w.alloc (.cells #[.slice none 0 0, .slice none 0 0] 50)) (.slice none 0 0) (.slice none 0 0)
  replace kf := kf.below hC
  replace hB := nextB hB hC
  rw [hz] at kg
  clear hz hC
  replace ia := ia.below hB
  replace ib := ib.below hB
  go_enter Try.func62, Try.ntmps62
  go_wp2_with fail
  obtain ⟨wo, hwo⟩ : ∃ wo : World, wo = (w.alloc (.cells #[.slice none 0 0, .slice none 0 0] 50)).alloc (.cells #[.slice none 0 0, .slice none 0 0] 55) := ⟨_, rfl⟩
  rw [← hwo] at hB kf kg ia ib ⊢
  clear hwo
  refine (raw_any ia most (by omega)).mono ?_
  rintro e w1 ⟨c, hc, vc, rfl, ic, b⟩
  have HC := Lib.hid hc
  clear hc
  replace kf := kf.below b
  replace kg := kg.below b
  replace ib := ib.below b
  replace hB := nextB hB b
  clear b
  clear ia
  go_wp2_with fail
  refine (raw_any ib most (by omega)).mono ?_
  rintro e w2 ⟨d, hd, vd, rfl, id, b⟩
  have HD := Lib.hid hd
  clear hd
  replace kf := kf.below b
  replace kg := kg.below b
  replace ic := ic.below b
  replace hB := nextB hB b
  clear b
  clear ib
  obtain ⟨aod, qd, capd, rfl, hqd, -⟩ := id.slice
  by_cases hd0 : d = 0
  · obtain rfl := hqd.2 hd0
    clear hqd hd0 ic id
    have c0 := kf.cell0
    have c1 := kf.cell1
    have f0 := kf.free0
    have f1 := kf.free1
    have kf0 := kf.set0 (.slice none 0 0)
    have d0 := kf0.cell0
    have d1 := kf0.cell1
    have g1 := kf0.free1
    have kf1 := kf0.set1 (.slice none 0 0)
    have kga := (kg.setO (R' := w.heap.size) (by omega) 0 (.slice none 0 0)).setO (R' := w.heap.size) (by omega) 1 (.slice none 0 0)
    have e0 := kga.cell0
    have e1 := kga.cell1
    have e2 := kga.free0
    have e3 := kga.free1
    have kgb := kga.set0 (.slice none 0 0)
    have e4 := kgb.cell0
    have e5 := kgb.cell1
    have e6 := kgb.free1
    have kgc := kgb.set1 (.slice none 0 0)
    have kfz := ((kf1.setO (R' := w.heap.size + 1) (by omega) 0 (.slice none 0 0)).setO (R' := w.heap.size + 1) (by omega) 1 (.slice none 0 0))
    have r0 := kfz.cell0
    have r1 := kfz.cell1
    have r2 := kgc.cell0
    have r3 := kgc.cell1
    go_wp2
    refine bodyPost_ret (v := .tuple #[.agg #[.slice none 0 0, .slice none 0 0], .agg #[.slice none 0 0, .slice none 0 0], .bool false]) (by simp [results, Try.results62, go_sem, r0, r1, r2, r3]) rfl ⟨false, 0, 1, _, _, _, _, _, _, _, rfl, Lib.hid ⟨by omega, rfl, P2_pos _, by have := P2_mono (show 1 ≤ 16 * most by omega); have e : P2 1 = 2 := rfl; omega⟩, IsF.zero _, fun h => (by cases h),
      (((hB.setCell (p := ⟨w.heap.size, 0, none⟩) (Nat.le_refl _) _).setCell (p := ⟨w.heap.size, 1, none⟩) (Nat.le_refl _) _).setCell (p := ⟨w.heap.size + 1, 0, none⟩) (Nat.le_succ _) _).setCell (p := ⟨w.heap.size + 1, 1, none⟩) (Nat.le_succ _) _⟩
  · have hqd0 : ((qd : Int) == 0) = false := by rw [beq_eq_false_iff_ne]; intro hh; exact hd0 (hqd.1 (by omega))
    have hd1 := Nat.pos_of_ne_zero hd0
    have HD0 := Lib.hid hd1
    have HF := Lib.hid (low_facts hd1 HC.out HD.out)
    clear hqd hd0 hd1
    have HL := Lib.hid (show 16 * most ≤ 16384 by omega)
    go_wp2_with fail
    refine (two_any ic id (lt_P2_mono HC.out HL.out) (lt_P2_mono HD.out HL.out)).mono ?_
    rintro e w3 ⟨u1, u2, rfl, j1, j2, b⟩
    obtain ⟨aox, qx, capx, rfl, xx⟩ := j1.slice
    obtain ⟨aoy, qy, capy, rfl, xy⟩ := j2.slice
    clear j1 j2
    replace kf := kf.below b
    replace kg := kg.below b
    replace ic := ic.below b
    replace id := id.below b
    replace hB := nextB hB b
    clear b
    obtain ⟨b, kx, ky⟩ := pro2 w3 (.slice aox qx capx) (.slice aoy qy capy)
    have cx := kx.cell
    have cy := ky.cell
    go_wp2_with fail
    clear cx cy
    obtain ⟨w4, hw⟩ : ∃ w_ : World, w_ = ((w3.alloc (.cells #[.slice aox qx capx] 25)).alloc (.cells #[.slice aoy qy capy] 25)) := ⟨_, rfl⟩
    rw [← hw] at b kx ky ⊢
    clear hw kx ky
    replace kf := kf.below b
    replace kg := kg.below b
    replace ic := ic.below b
    replace id := id.below b
    replace xx := xx.below b
    replace xy := xy.below b
    replace hB := nextB hB b
    clear b
    refine (NewFrac_any ⟨_, rfl, xx⟩ ⟨_, rfl, xy⟩ HD0.out 16384 (by omega) (lt_P2_mono HC.out HL.out) (lt_P2_mono HD.out HL.out)).mono ?_
    rintro e w5 ⟨vf, rfl, jf, b⟩
    rw [if_pos rfl, if_pos rfl] at jf
    obtain ⟨aof, qf, capf, aof2, qf2, capf2, rfl, y1, y2, y3⟩ := jf.slice
    clear jf xx xy
    replace kf := kf.below b
    replace kg := kg.below b
    replace ic := ic.below b
    replace id := id.below b
    replace hB := nextB hB b
    clear b
    obtain ⟨b, km⟩ := prof w5 (.slice aof qf capf) (.slice aof2 qf2 capf2)
    obtain ⟨R, hR⟩ : ∃ R, R = w5.heap.size := ⟨_, rfl⟩
    have hR1 : w.heap.size + 1 < R := by rw [hR]; exact kg.lt
    have c0 := km.cell0
    have c1 := km.cell1
    go_wp2_with fail
    clear c0 c1
    obtain ⟨w6, hw⟩ : ∃ w_ : World, w_ = (w5.alloc (.cells #[.slice aof qf capf, .slice aof2 qf2 capf2] 50)) := ⟨_, rfl⟩
    rw [← hw] at b km ⊢
    rw [← hR] at km ⊢
    clear hw hR
    replace kf := kf.below b
    replace kg := kg.below b
    replace ic := ic.below b
    replace id := id.below b
    replace y1 := y1.below b
    replace y2 := y2.below b
    replace hB := nextB hB b
    clear b
    have hdr : Below w6.heap.size w6 w6.drew := (Below.refl _ _).drew
    replace y1 := y1.below hdr
    replace y2 := y2.below hdr
    replace ic := ic.below hdr
    replace id := id.below hdr
    have c0 := km.cell0
    have c1 := km.cell1
    have hlt := km.lt
    have HLow := Lib.hid (fun w_ u_ v_ (h1 : IsR w_ u_ c) (h2 : IsR w_ v_ d) => lowR_any h1 h2 HD0.out 16384 (by omega) (lt_P2_mono HC.out HL.out) (lt_P2_mono HD.out HL.out))
    generalize c / Nat.gcd c d = p at *
    generalize d / Nat.gcd c d = q at *
    go_region_held3 (fun w' => w'.cell? ⟨R, 0, none⟩ = some (.slice aof qf capf) ∧ w'.cell? ⟨R, 1, none⟩ = some (.slice aof2 qf2 capf2) ∧ (∃ s t, Fx w' w.heap.size s t ∧ NoInt #[s, t]) ∧ (∃ s t, Gx w' (w.heap.size + 1) s t ∧ NoInt #[s, t]) ∧ R < w'.heap.size ∧ Below w.heap.size w w')
      (first
        | exact ⟨c0, c1, ⟨_, _, kf.below hdr, NoInt.two⟩, ⟨_, _, kg.below hdr, NoInt.two⟩, hlt, hB.drew⟩
        | (go_split_ands; exact ⟨by assumption, by assumption, by assumption, by assumption, by assumption, by assumption⟩)
        | (go_split_ands; with_reducible exact hs_call ⟨by assumption, by assumption, by assumption, by assumption, by assumption, by assumption⟩ bb)
        | (go_split_ands; with_reducible exact hs_f hR1 ⟨by assumption, by assumption, by assumption, by assumption, by assumption, by assumption⟩ kx ky kny NoInt.two)
        | (go_split_ands; with_reducible exact hs_g hR1 ⟨by assumption, by assumption, by assumption, by assumption, by assumption, by assumption⟩ ((kx.set0 _).set1 _) NoInt.two (kyf _ _) NoInt.two))
      (first
        | (go_at_call 48; go_split_ands; (with_reducible refine (HLow.out _ _ _ ic id).mono ?_); rintro e wq ⟨vg, rfl, jg, bb⟩; obtain ⟨aog, qg, capg, aog2, qg2, capg2, rfl, z1, z2, z3⟩ := jg.slice; replace y1 := y1.below bb; replace y2 := y2.below bb; obtain ⟨s_, t_, kx, knx⟩ := fx_next (R := w.heap.size) (by assumption) bb; obtain ⟨s2_, t2_, ky, kny⟩ := gx_next (R := w.heap.size + 1) (by assumption) bb; have e0 := kx.cell0; have e1 := kx.cell1; have f0 := kx.free0; have f1 := kx.free1; have g0 := fun v => (kx.set0 v).cell1; have g1 := fun v => (kx.set0 v).free1; have kyf := fun v u => (ky.setO (R' := w.heap.size) (by omega) 0 v).setO (R' := w.heap.size) (by omega) 1 u; have h0 := fun v u => (kyf v u).cell0; have h1 := fun v u => (kyf v u).cell1; have h2 := fun v u => (kyf v u).free0; have h3 := fun v u => (kyf v u).free1; have h4 := fun v u x => ((kyf v u).set0 x).cell1; have h5 := fun v u x => ((kyf v u).set0 x).free1))
    go_split_ands
    have hC := show Below w.heap.size w _ by assumption
    have kx1 := (kx.set0 (.slice aof qf capf)).set1 (.slice aof2 qf2 capf2)
    have ky1 := kyf (.slice aof qf capf) (.slice aof2 qf2 capf2)
    have ky2 := (ky1.set0 (.slice aog qg capg)).set1 (.slice aog2 qg2 capg2)
    have kx2 := (kx1.setO (R' := w.heap.size + 1) (by omega) 0 (.slice aog qg capg)).setO (R' := w.heap.size + 1) (by omega) 1 (.slice aog2 qg2 capg2)
    have r0 := kx2.cell0
    have r1 := kx2.cell1
    have r2 := ky2.cell0
    have r3 := ky2.cell1
    go_wp2
    refine bodyPost_ret (v := .tuple #[.agg #[.slice aof qf capf, .slice aof2 qf2 capf2], .agg #[.slice aog qg capg, .slice aog2 qg2 capg2], .bool true]) (by simp [results, Try.results62, go_sem, r0, r1, r2, r3]) rfl ⟨true, p, q, _, _, _, _, _, _, _, rfl, HF,
      IsF.of ((((y1.setF kx knx 0 _).setF (kx.set0 _) (noInt_set knx) 1 _).setG ky1 kny 0 _).setG (ky1.set0 _) (noInt_set kny) 1 _) ((((y2.setF kx knx 0 _).setF (kx.set0 _) (noInt_set knx) 1 _).setG ky1 kny 0 _).setG (ky1.set0 _) (noInt_set kny) 1 _) y3,
      fun _ => IsG.of ((((z1.setF kx knx 0 _).setF (kx.set0 _) (noInt_set knx) 1 _).setG ky1 kny 0 _).setG (ky1.set0 _) (noInt_set kny) 1 _) ((((z2.setF kx knx 0 _).setF (kx.set0 _) (noInt_set knx) 1 _).setG ky1 kny 0 _).setG (ky1.set0 _) (noInt_set kny) 1 _) z3, hC⟩

end Go.Proofs.Ytppbhjhbaknidaa

/-
  The contract of the program's Sub of fractions. Condition: numbers of at most 2^14 bits.
-/
set_option linter.unusedVariables false
set_option linter.unusedSimpArgs false
namespace Go.Proofs.Ytppbhjhbaknidaa
open Go.RowKit

set_option maxHeartbeats 4000000 in
set_option maxRecDepth 100000 in
theorem FSub_any {w : World} {f g : Value} {n d n' d' : Nat} (hf : IsF w f n d) (hg : IsF w g n' d') (hle : n' * d ≤ n * d') (L : Nat) (hL : L ≤ 16384) (hn : n < P2 L) (hd : d < P2 L) (hn' : n' < P2 L) (hd' : d' < P2 L) :
    Calls Try.prog 89 #[f, g] w (RetFE w ((n * d' - n' * d) / Nat.gcd (n * d' - n' * d) (d * d')) ((d * d') / Nat.gcd (n * d' - n' * d) (d * d')) (withinE ((n * d' - n' * d) / Nat.gcd (n * d' - n' * d) (d * d')) ((d * d') / Nat.gcd (n * d' - n' * d) (d * d')))) := by
  obtain ⟨ao, k, cap, ao2, k2, cap2, rfl, ia, ib, h0⟩ := hf.slice
  obtain ⟨ao3, k3, cap3, ao4, k4, cap4, rfl, ic, id, h1⟩ := hg.slice
  obtain ⟨hB, kf, kg, kr⟩ := pro3f w (.slice ao k cap) (.slice ao2 k2 cap2) (.slice ao3 k3 cap3) (.slice ao4 k4 cap4)
  have HN := Lib.hid hn
  have HD := Lib.hid hd
  have HN' := Lib.hid hn'
  have HD' := Lib.hid hd'
  have HDD := Lib.hid (show 0 < d * d' from Nat.mul_pos h0 h1)
  have HA := Lib.hid (mul_lt_P2 hn hd')
  have HB := Lib.hid (mul_lt_P2 hn' hd)
  have HP := Lib.hid (show n * d' - n' * d < P2 (L + L + 1) from Nat.lt_of_le_of_lt (Nat.sub_le _ _) (lt_P2_mono (mul_lt_P2 hn hd') (by omega)))
  have HQ := Lib.hid (show d * d' < P2 (L + L + 1) from lt_P2_mono (mul_lt_P2 hd hd') (by omega))
  have HP2 := Lib.hid (Nat.lt_of_le_of_lt (Nat.div_le_self (n * d' - n' * d) (Nat.gcd (n * d' - n' * d) (d * d'))) HP.out)
  have HQ2 := Lib.hid (Nat.lt_of_le_of_lt (Nat.div_le_self (d * d') (Nat.gcd (n * d' - n' * d) (d * d'))) HQ.out)
  have HLE := Lib.hid hle
  have hz := decide_eq_false (show ¬ cmpI (n * d') (n' * d) < 0 by have := cmpI_ge hle; omega)
  clear hle
  clear hn hd hn' hd' ib id
  have c0 := kf.cell0
  have c1 := kf.cell1
  have c2 := kg.cell0
  have c3 := kg.cell1
  have hlt := kg.lt
  go_enter Try.func89, Try.ntmps89
  go_wp2_with fail
  obtain ⟨wo, hwo⟩ : ∃ wo : World, wo = ((w.alloc (.cells #[.slice ao k cap, .slice ao2 k2 cap2] 50)).alloc (.cells #[.slice ao3 k3 cap3, .slice ao4 k4 cap4] 50)).alloc (.cells #[.slice none 0 0, .slice none 0 0] 50) := ⟨_, rfl⟩
  rw [← hwo] at hB kf kg kr c0 c1 c2 c3 hlt ⊢
  clear hwo
  refine (FCmp_any (hf.below hB) (hg.below hB) L hL HN.out HD.out HN'.out HD'.out).mono ?_
  rintro e wc ⟨rfl, b⟩
  replace hB := nextB hB b
  replace kf := kf.below b
  replace kg := kg.below b
  replace kr := kr.below b
  clear b c0 c1 c2 c3 hlt
  have c0 := kf.cell0
  have c1 := kf.cell1
  have c2 := kg.cell0
  have c3 := kg.cell1
  have hlt := kg.lt
  go_wp2
  go_region_held3 (fun w' => w'.cell? ⟨w.heap.size, 0, none⟩ = some (.slice ao k cap) ∧ w'.cell? ⟨w.heap.size, 1, none⟩ = some (.slice ao2 k2 cap2) ∧ w'.cell? ⟨w.heap.size + 1, 0, none⟩ = some (.slice ao3 k3 cap3) ∧ w'.cell? ⟨w.heap.size + 1, 1, none⟩ = some (.slice ao4 k4 cap4) ∧ (∃ s t, Fx w' (w.heap.size + 1 + 1) s t ∧ NoInt #[s, t]) ∧ w.heap.size + 1 < w'.heap.size ∧ Below w.heap.size w w')
    (first
      | exact ⟨c0, c1, c2, c3, ⟨_, _, kr.below (Below.refl _ _).drew, NoInt.two⟩, hlt, hB.drew⟩
      | (go_split_ands; exact ⟨by assumption, by assumption, by assumption, by assumption, by assumption, by assumption, by assumption⟩)
      | (go_split_ands; exact fs_call ⟨by assumption, by assumption, by assumption, by assumption, by assumption, by assumption, by assumption⟩ bb)
      | (go_split_ands; exact fs_store _ _ ⟨by assumption, by assumption, by assumption, by assumption, by assumption, by assumption, by assumption⟩ kx NoInt.two))
    (first
      | (go_at_call 109; go_split_ands; (with_reducible refine (den_any (hf.below (by assumption)) L (by omega) HD.out).mono ?_); rintro e wq ⟨v3, rfl, i3, bb⟩; obtain ⟨s_, t_, kx, kn⟩ := fx_next (R := w.heap.size + 1 + 1) (by assumption) bb)
      | (go_at_call 109; go_split_ands; (with_reducible refine (den_any (hg.below (by assumption)) L (by omega) HD'.out).mono ?_); rintro e wq ⟨v4, rfl, i4, bb⟩; replace i3 := i3.below bb; obtain ⟨s_, t_, kx, kn⟩ := fx_next (R := w.heap.size + 1 + 1) (by assumption) bb))
  go_split_ands
  have hB2 := show Below w.heap.size w wq by assumption
  have hlt2 := show w.heap.size + 1 < wq.heap.size by assumption
  obtain ⟨wy, hwy⟩ : ∃ w_ : World, w_ = wq := ⟨_, rfl⟩
  have e0 := show wq.cell? ⟨w.heap.size, 0, none⟩ = some (.slice ao k cap) by assumption
  have e1 := show wq.cell? ⟨w.heap.size, 1, none⟩ = some (.slice ao2 k2 cap2) by assumption
  have e2 := show wq.cell? ⟨w.heap.size + 1, 0, none⟩ = some (.slice ao3 k3 cap3) by assumption
  have e3 := show wq.cell? ⟨w.heap.size + 1, 1, none⟩ = some (.slice ao4 k4 cap4) by assumption
  rw [← hwy] at hB2 hlt2 i3 i4 kx e0 e1 e2 e3 ⊢
  clear hwy hB hlt c0 c1 c2 c3 kr kf kg
  have hB := hB2
  have hlt := hlt2
  have c0 := e0
  have c1 := e1
  have c2 := e2
  have c3 := e3
  clear hB2 hlt2 e0 e1 e2 e3
  have j3 := i3.below (show Below wy.heap.size wy wy.drew from (Below.refl _ _).drew)
  have j4 := i4.below (show Below wy.heap.size wy wy.drew from (Below.refl _ _).drew)
  clear i3 i4
  have kr := kx
  have knr := kn
  clear kx kn
  go_wp2
  go_region_held3 (fun w' => w'.cell? ⟨w.heap.size, 0, none⟩ = some (.slice ao k cap) ∧ w'.cell? ⟨w.heap.size, 1, none⟩ = some (.slice ao2 k2 cap2) ∧ w'.cell? ⟨w.heap.size + 1, 0, none⟩ = some (.slice ao3 k3 cap3) ∧ w'.cell? ⟨w.heap.size + 1, 1, none⟩ = some (.slice ao4 k4 cap4) ∧ (∃ s t, Fx w' (w.heap.size + 1 + 1) s t ∧ NoInt #[s, t]) ∧ w.heap.size + 1 < w'.heap.size ∧ Below w.heap.size w w')
    (first
      | exact ⟨c0, c1, c2, c3, ⟨_, _, kr.below (Below.refl _ _).drew, knr⟩, hlt, hB.drew⟩
      | (go_split_ands; exact ⟨by assumption, by assumption, by assumption, by assumption, by assumption, by assumption, by assumption⟩)
      | (go_split_ands; exact fs_call ⟨by assumption, by assumption, by assumption, by assumption, by assumption, by assumption, by assumption⟩ bb)
      | (go_split_ands; exact fs_store _ _ ⟨by assumption, by assumption, by assumption, by assumption, by assumption, by assumption, by assumption⟩ kx NoInt.two))
    (first
      | (go_at_call 100; go_split_ands; (with_reducible refine (mul_any (ia.below (by assumption)) j4 L (by omega) HN.out HD'.out).mono ?_); rintro e wq ⟨v1, rfl, i1, bb⟩; replace j3 := j3.below bb; replace j4 := j4.below bb; obtain ⟨s_, t_, kx, kn⟩ := fx_next (R := w.heap.size + 1 + 1) (by assumption) bb)
      | (go_at_call 100; go_split_ands; (with_reducible refine (mul_any (ic.below (by assumption)) j3 L (by omega) HN'.out HD.out).mono ?_); rintro e wq ⟨v5, rfl, i5, bb⟩; replace j3 := j3.below bb; replace j4 := j4.below bb; replace i1 := i1.below bb; obtain ⟨s_, t_, kx, kn⟩ := fx_next (R := w.heap.size + 1 + 1) (by assumption) bb)
      | (go_at_call 100; go_split_ands; (with_reducible refine (mul_any j3 j4 L (by omega) HD.out HD'.out).mono ?_); rintro e wq ⟨v2, rfl, i2, bb⟩; replace i6 := i6.below bb; obtain ⟨s_, t_, kx, kn⟩ := fx_next (R := w.heap.size + 1 + 1) (by assumption) bb)
      | (go_at_call 112; go_split_ands; (with_reducible refine (sub_any i1 i5 (L + L) (by omega) HA.out HLE.out).mono ?_); rintro e wq ⟨v6, rfl, i6, bb⟩; replace j3 := j3.below bb; replace j4 := j4.below bb; obtain ⟨s_, t_, kx, kn⟩ := fx_next (R := w.heap.size + 1 + 1) (by assumption) bb)
      | (go_at_call 108; go_split_ands; (with_reducible refine (lowest_any i6 i2 HDD.out (L + L + 1) (by omega) HP.out HQ.out).mono ?_); rintro e wq ⟨v7, rfl, i7, bb⟩; obtain ⟨s_, t_, kx, kn⟩ := fx_next (R := w.heap.size + 1 + 1) (by assumption) bb)
      | (go_at_call 119; go_split_ands; (with_reducible refine (within_any i7 (L + L + 1) (by omega) HP2.out HQ2.out).mono ?_); rintro e wq ⟨v8, rfl, i8, bb⟩; obtain ⟨ao7, k7, cap7, ao8, k8, cap8, rfl, i9, i10, h7⟩ := i8.slice; obtain ⟨s_, t_, kx, kn⟩ := fx_next (R := w.heap.size + 1 + 1) (by assumption) bb; have e0 := kx.cell0; have e1 := kx.cell1; have f0 := kx.free0; have f1 := kx.free1; have g0 := fun v => (kx.set0 v).cell1; have g1 := fun v => (kx.set0 v).free1))
  go_split_ands
  have hC := show Below w.heap.size w _ by assumption
  have d0 := ((kx.set0 (.slice ao7 k7 cap7)).set1 (.slice ao8 k8 cap8)).cell0
  have d1 := ((kx.set0 (.slice ao7 k7 cap7)).set1 (.slice ao8 k8 cap8)).cell1
  go_wp2
  refine bodyPost_ret (v := .tuple #[.agg #[.slice ao7 k7 cap7, .slice ao8 k8 cap8], .int .i64 _]) (by simp [results, Try.results89, go_sem, d0, d1]) rfl ⟨_, rfl, IsF.of ((i9.setF kx kn 0 _).setF (kx.set0 _) (noInt_set kn) 1 _) ((i10.setF kx kn 0 _).setF (kx.set0 _) (noInt_set kn) 1 _) h7, hC⟩

set_option maxHeartbeats 1000000 in
set_option maxRecDepth 100000 in
theorem FSub_neg {w : World} {f g : Value} {n d n' d' : Nat} (hf : IsF w f n d) (hg : IsF w g n' d') (hlt0 : n * d' < n' * d) (L : Nat) (hL : L ≤ 16384) (hn : n < P2 L) (hd : d < P2 L) (hn' : n' < P2 L) (hd' : d' < P2 L) :
    Calls Try.prog 89 #[f, g] w (RetFE w 0 0 10) := by
  obtain ⟨ao, k, cap, ao2, k2, cap2, rfl, ia, ib, h0⟩ := hf.slice
  obtain ⟨ao3, k3, cap3, ao4, k4, cap4, rfl, ic, id, h1⟩ := hg.slice
  obtain ⟨hB, kf, kg, kr⟩ := pro3f w (.slice ao k cap) (.slice ao2 k2 cap2) (.slice ao3 k3 cap3) (.slice ao4 k4 cap4)
  have HN := Lib.hid hn
  have HD := Lib.hid hd
  have HN' := Lib.hid hn'
  have HD' := Lib.hid hd'
  have hz := cmpI_lt hlt0
  have HZ := Lib.hid hz
  clear hn hd hn' hd' ib id hz hlt0
  have c0 := kf.cell0
  have c1 := kf.cell1
  have c2 := kg.cell0
  have c3 := kg.cell1
  go_enter Try.func89, Try.ntmps89
  go_wp2_with fail
  obtain ⟨wo, hwo⟩ : ∃ wo : World, wo = ((w.alloc (.cells #[.slice ao k cap, .slice ao2 k2 cap2] 50)).alloc (.cells #[.slice ao3 k3 cap3, .slice ao4 k4 cap4] 50)).alloc (.cells #[.slice none 0 0, .slice none 0 0] 50) := ⟨_, rfl⟩
  rw [← hwo] at hB kf kg kr c0 c1 c2 c3 ⊢
  clear hwo
  refine (FCmp_any (hf.below hB) (hg.below hB) L hL HN.out HD.out HN'.out HD'.out).mono ?_
  rintro e wc ⟨rfl, b⟩
  rw [HZ.out]
  replace hB := nextB hB b
  replace kr := kr.below b
  clear b c0 c1 c2 c3
  have e0 := kr.cell0
  have e1 := kr.cell1
  have f0 := kr.free0
  have f1 := kr.free1
  have kz := kr.set0 (.slice none 0 0)
  have d1 := kz.cell1
  have g1 := kz.free1
  have d0 := kz.cell0
  have kz2 := kz.set1 (.slice none 0 0)
  have r0 := kz2.cell0
  have r1 := kz2.cell1
  go_wp2
  refine bodyPost_ret (v := .tuple #[.agg #[.slice none 0 0, .slice none 0 0], .int .i64 (10 : Nat)]) (by simp [results, Try.results89, go_sem, r0, r1]) rfl ⟨_, rfl, IsF.zero _, (hB.setCell (by simp; omega) _).setCell (by simp; omega) _⟩

end Go.Proofs.Ytppbhjhbaknidaa

/-
  The contracts of the specification's Cmp, Add, Sub, Mul, Div of fractions. Condition: numbers of at most 2^14 bits.
-/
set_option linter.unusedVariables false
set_option linter.unusedSimpArgs false
namespace Go.Proofs.Ytppbhjhbaknidaa
open Go.RowKit

theorem pro3g (w : World) (s t s' t' : Value) : Below w.heap.size w (((w.alloc (.cells #[s, t] 55)).alloc (.cells #[s', t'] 55)).alloc (.cells #[.slice none 0 0, .slice none 0 0] 55)) ∧
    Gx (((w.alloc (.cells #[s, t] 55)).alloc (.cells #[s', t'] 55)).alloc (.cells #[.slice none 0 0, .slice none 0 0] 55)) w.heap.size s t ∧
    Gx (((w.alloc (.cells #[s, t] 55)).alloc (.cells #[s', t'] 55)).alloc (.cells #[.slice none 0 0, .slice none 0 0] 55)) (w.heap.size + 1) s' t' ∧
    Gx (((w.alloc (.cells #[s, t] 55)).alloc (.cells #[s', t'] 55)).alloc (.cells #[.slice none 0 0, .slice none 0 0] 55)) (w.heap.size + 1 + 1) (.slice none 0 0) (.slice none 0 0) := by
  have hz : (w.alloc (.cells #[s, t] 55)).heap.size = w.heap.size + 1 := by simp
  have hz2 : ((w.alloc (.cells #[s, t] 55)).alloc (.cells #[s', t'] 55)).heap.size = w.heap.size + 1 + 1 := by simp
  obtain ⟨b1, k1⟩ := prog' w s t
  obtain ⟨b2, k2⟩ := prog' (w.alloc (.cells #[s, t] 55)) s' t'
  obtain ⟨b3, k3⟩ := prog' ((w.alloc (.cells #[s, t] 55)).alloc (.cells #[s', t'] 55)) (.slice none 0 0) (.slice none 0 0)
  rw [hz] at k2
  rw [hz2] at k3
  exact ⟨nextB (nextB b1 b2) b3, (k1.below b2).below b3, k2.below b3, k3⟩
theorem gs_call {w w1 w2 : World} {A B C D : Value} (h : w1.cell? ⟨w.heap.size, 0, none⟩ = some A ∧ w1.cell? ⟨w.heap.size, 1, none⟩ = some B ∧ w1.cell? ⟨w.heap.size + 1, 0, none⟩ = some C ∧ w1.cell? ⟨w.heap.size + 1, 1, none⟩ = some D ∧ (∃ s t, Gx w1 (w.heap.size + 1 + 1) s t ∧ NoInt #[s, t]) ∧ w.heap.size + 1 < w1.heap.size ∧ Below w.heap.size w w1)
    (bb : Below w1.heap.size w1 w2) : w2.cell? ⟨w.heap.size, 0, none⟩ = some A ∧ w2.cell? ⟨w.heap.size, 1, none⟩ = some B ∧ w2.cell? ⟨w.heap.size + 1, 0, none⟩ = some C ∧ w2.cell? ⟨w.heap.size + 1, 1, none⟩ = some D ∧ (∃ s t, Gx w2 (w.heap.size + 1 + 1) s t ∧ NoInt #[s, t]) ∧ w.heap.size + 1 < w2.heap.size ∧ Below w.heap.size w w2 := by
  obtain ⟨h1, h2, h3, h4, h5, h6, h7⟩ := h
  exact ⟨(bb.cell (p := ⟨w.heap.size, 0, none⟩) (show w.heap.size < w1.heap.size by omega)).trans h1, (bb.cell (p := ⟨w.heap.size, 1, none⟩) (show w.heap.size < w1.heap.size by omega)).trans h2, (bb.cell (p := ⟨w.heap.size + 1, 0, none⟩) h6).trans h3, (bb.cell (p := ⟨w.heap.size + 1, 1, none⟩) h6).trans h4, gx_next h5 bb, Nat.lt_of_lt_of_le h6 bb.size, nextB h7 bb⟩
theorem gs_store {w w1 : World} {A B C D s t : Value} (u v : Value) (h : w1.cell? ⟨w.heap.size, 0, none⟩ = some A ∧ w1.cell? ⟨w.heap.size, 1, none⟩ = some B ∧ w1.cell? ⟨w.heap.size + 1, 0, none⟩ = some C ∧ w1.cell? ⟨w.heap.size + 1, 1, none⟩ = some D ∧ (∃ s t, Gx w1 (w.heap.size + 1 + 1) s t ∧ NoInt #[s, t]) ∧ w.heap.size + 1 < w1.heap.size ∧ Below w.heap.size w w1) (kx : Gx w1 (w.heap.size + 1 + 1) s t) (hn : NoInt #[u, v]) :
    (((w1.setCell ⟨w.heap.size + 1 + 1, 0, none⟩ u).setCell ⟨w.heap.size + 1 + 1, 1, none⟩ v).cell? ⟨w.heap.size, 0, none⟩ = some A ∧ ((w1.setCell ⟨w.heap.size + 1 + 1, 0, none⟩ u).setCell ⟨w.heap.size + 1 + 1, 1, none⟩ v).cell? ⟨w.heap.size, 1, none⟩ = some B ∧ ((w1.setCell ⟨w.heap.size + 1 + 1, 0, none⟩ u).setCell ⟨w.heap.size + 1 + 1, 1, none⟩ v).cell? ⟨w.heap.size + 1, 0, none⟩ = some C ∧ ((w1.setCell ⟨w.heap.size + 1 + 1, 0, none⟩ u).setCell ⟨w.heap.size + 1 + 1, 1, none⟩ v).cell? ⟨w.heap.size + 1, 1, none⟩ = some D ∧ (∃ s t, Gx ((w1.setCell ⟨w.heap.size + 1 + 1, 0, none⟩ u).setCell ⟨w.heap.size + 1 + 1, 1, none⟩ v) (w.heap.size + 1 + 1) s t ∧ NoInt #[s, t]) ∧ w.heap.size + 1 < ((w1.setCell ⟨w.heap.size + 1 + 1, 0, none⟩ u).setCell ⟨w.heap.size + 1 + 1, 1, none⟩ v).heap.size ∧ Below w.heap.size w ((w1.setCell ⟨w.heap.size + 1 + 1, 0, none⟩ u).setCell ⟨w.heap.size + 1 + 1, 1, none⟩ v)) := by
  obtain ⟨h1, h2, h3, h4, h5, h6, h7⟩ := h
  exact ⟨(cell_set_ne (by omega)).trans ((cell_set_ne (by omega)).trans h1), (cell_set_ne (by omega)).trans ((cell_set_ne (by omega)).trans h2), (cell_set_ne (by omega)).trans ((cell_set_ne (by omega)).trans h3), (cell_set_ne (by omega)).trans ((cell_set_ne (by omega)).trans h4),
    ⟨_, _, (kx.set0 _).set1 _, hn⟩, Nat.lt_of_lt_of_eq h6 (by simp), (h7.setCell (show w.heap.size ≤ w.heap.size + 1 + 1 by omega) _).setCell (show w.heap.size ≤ w.heap.size + 1 + 1 by omega) _⟩

set_option maxHeartbeats 4000000 in
set_option maxRecDepth 100000 in
theorem addG_any {w : World} {f g : Value} {n d n' d' : Nat} (hf : IsG w f n d) (hg : IsG w g n' d') (L : Nat) (hL : L ≤ 16384) (hn : n < P2 L) (hd : d < P2 L) (hn' : n' < P2 L) (hd' : d' < P2 L) :
    Calls Try.prog 86 #[f, g] w (RetG w ((n * d' + n' * d) / Nat.gcd (n * d' + n' * d) (d * d')) ((d * d') / Nat.gcd (n * d' + n' * d) (d * d'))) := by
  obtain ⟨ao, k, cap, ao2, k2, cap2, rfl, ia, ib, h0⟩ := hf.slice
  obtain ⟨ao3, k3, cap3, ao4, k4, cap4, rfl, ic, id, h1⟩ := hg.slice
  obtain ⟨hB, kf, kg, kr⟩ := pro3g w (.slice ao k cap) (.slice ao2 k2 cap2) (.slice ao3 k3 cap3) (.slice ao4 k4 cap4)
  have HN := Lib.hid hn
  have HD := Lib.hid hd
  have HN' := Lib.hid hn'
  have HD' := Lib.hid hd'
  have HDD := Lib.hid (show 0 < d * d' from Nat.mul_pos h0 h1)
  have HA := Lib.hid (mul_lt_P2 hn hd')
  have HB := Lib.hid (mul_lt_P2 hn' hd)
  have HP := Lib.hid (show n * d' + n' * d < P2 (L + L + 1) from add_lt_P2 (mul_lt_P2 hn hd') (mul_lt_P2 hn' hd))
  have HQ := Lib.hid (show d * d' < P2 (L + L + 1) from lt_P2_mono (mul_lt_P2 hd hd') (by omega))
  clear hn hd hn' hd'
  have c0 := kf.cell0
  have c1 := kf.cell1
  have c2 := kg.cell0
  have c3 := kg.cell1
  have hlt := kg.lt
  go_enter Try.func86, Try.ntmps86
  go_wp2_with fail
  obtain ⟨wo, hwo⟩ : ∃ wo : World, wo = ((w.alloc (.cells #[.slice ao k cap, .slice ao2 k2 cap2] 55)).alloc (.cells #[.slice ao3 k3 cap3, .slice ao4 k4 cap4] 55)).alloc (.cells #[.slice none 0 0, .slice none 0 0] 55) := ⟨_, rfl⟩
  rw [← hwo] at hB kr c0 c1 c2 c3 hlt ⊢
  clear hwo kf kg
  go_region_held3 (fun w' => w'.cell? ⟨w.heap.size, 0, none⟩ = some (.slice ao k cap) ∧ w'.cell? ⟨w.heap.size, 1, none⟩ = some (.slice ao2 k2 cap2) ∧ w'.cell? ⟨w.heap.size + 1, 0, none⟩ = some (.slice ao3 k3 cap3) ∧ w'.cell? ⟨w.heap.size + 1, 1, none⟩ = some (.slice ao4 k4 cap4) ∧ (∃ s t, Gx w' (w.heap.size + 1 + 1) s t ∧ NoInt #[s, t]) ∧ w.heap.size + 1 < w'.heap.size ∧ Below w.heap.size w w')
    (first
      | exact ⟨c0, c1, c2, c3, ⟨_, _, kr.below (Below.refl _ _).drew, NoInt.two⟩, hlt, hB.drew⟩
      | (go_split_ands; exact ⟨by assumption, by assumption, by assumption, by assumption, by assumption, by assumption, by assumption⟩)
      | (go_split_ands; exact gs_call ⟨by assumption, by assumption, by assumption, by assumption, by assumption, by assumption, by assumption⟩ bb)
      | (go_split_ands; exact gs_store _ _ ⟨by assumption, by assumption, by assumption, by assumption, by assumption, by assumption, by assumption⟩ kx NoInt.two))
    (first
      | (go_at_call 38; go_split_ands; (with_reducible refine (mulR_any (ia.below (by assumption)) (id.below (by assumption)) L (by omega) HN.out HD'.out).mono ?_); rintro e wq ⟨v1, rfl, i1, bb⟩; obtain ⟨s_, t_, kx, kn⟩ := gx_next (R := w.heap.size + 1 + 1) (by assumption) bb)
      | (go_at_call 38; go_split_ands; (with_reducible refine (mulR_any (ic.below (by assumption)) (ib.below (by assumption)) L (by omega) HN'.out HD.out).mono ?_); rintro e wq ⟨v5, rfl, i5, bb⟩; replace i1 := i1.below bb; obtain ⟨s_, t_, kx, kn⟩ := gx_next (R := w.heap.size + 1 + 1) (by assumption) bb)
      | (go_at_call 56; go_split_ands; (with_reducible refine (addR_any i1 i5 (L + L) (by omega) HA.out HB.out).mono ?_); rintro e wq ⟨v6, rfl, i6, bb⟩; obtain ⟨s_, t_, kx, kn⟩ := gx_next (R := w.heap.size + 1 + 1) (by assumption) bb)
      | (go_at_call 38; go_split_ands; (with_reducible refine (mulR_any (ib.below (by assumption)) (id.below (by assumption)) L (by omega) HD.out HD'.out).mono ?_); rintro e wq ⟨v2, rfl, i2, bb⟩; replace i6 := i6.below bb; obtain ⟨s_, t_, kx, kn⟩ := gx_next (R := w.heap.size + 1 + 1) (by assumption) bb)
      | (go_at_call 48; go_split_ands; (with_reducible refine (lowR_any i6 i2 HDD.out (L + L + 1) (by omega) HP.out HQ.out).mono ?_); rintro e wq ⟨v8, rfl, i8, bb⟩; obtain ⟨ao7, k7, cap7, ao8, k8, cap8, rfl, i9, i10, h7⟩ := i8.slice; obtain ⟨s_, t_, kx, kn⟩ := gx_next (R := w.heap.size + 1 + 1) (by assumption) bb; have e0 := kx.cell0; have e1 := kx.cell1; have f0 := kx.free0; have f1 := kx.free1; have g0 := fun v => (kx.set0 v).cell1; have g1 := fun v => (kx.set0 v).free1))
  go_split_ands
  have hC := show Below w.heap.size w _ by assumption
  have d0 := ((kx.set0 (.slice ao7 k7 cap7)).set1 (.slice ao8 k8 cap8)).cell0
  have d1 := ((kx.set0 (.slice ao7 k7 cap7)).set1 (.slice ao8 k8 cap8)).cell1
  go_wp2
  refine bodyPost_ret (v := .agg #[.slice ao7 k7 cap7, .slice ao8 k8 cap8]) (by simp [results, Try.results86, go_sem, d0, d1]) rfl ⟨_, rfl, IsG.of ((i9.setG kx kn 0 _).setG (kx.set0 _) (noInt_set kn) 1 _) ((i10.setG kx kn 0 _).setG (kx.set0 _) (noInt_set kn) 1 _) h7, hC⟩

set_option maxHeartbeats 4000000 in
set_option maxRecDepth 100000 in
theorem subG_any {w : World} {f g : Value} {n d n' d' : Nat} (hf : IsG w f n d) (hg : IsG w g n' d') (hle : n' * d ≤ n * d') (L : Nat) (hL : L ≤ 16384) (hn : n < P2 L) (hd : d < P2 L) (hn' : n' < P2 L) (hd' : d' < P2 L) :
    Calls Try.prog 90 #[f, g] w (RetG w ((n * d' - n' * d) / Nat.gcd (n * d' - n' * d) (d * d')) ((d * d') / Nat.gcd (n * d' - n' * d) (d * d'))) := by
  obtain ⟨ao, k, cap, ao2, k2, cap2, rfl, ia, ib, h0⟩ := hf.slice
  obtain ⟨ao3, k3, cap3, ao4, k4, cap4, rfl, ic, id, h1⟩ := hg.slice
  obtain ⟨hB, kf, kg, kr⟩ := pro3g w (.slice ao k cap) (.slice ao2 k2 cap2) (.slice ao3 k3 cap3) (.slice ao4 k4 cap4)
  have HN := Lib.hid hn
  have HD := Lib.hid hd
  have HN' := Lib.hid hn'
  have HD' := Lib.hid hd'
  have HDD := Lib.hid (show 0 < d * d' from Nat.mul_pos h0 h1)
  have HA := Lib.hid (mul_lt_P2 hn hd')
  have HB := Lib.hid (mul_lt_P2 hn' hd)
  have HP := Lib.hid (show n * d' - n' * d < P2 (L + L + 1) from Nat.lt_of_le_of_lt (Nat.sub_le _ _) (lt_P2_mono (mul_lt_P2 hn hd') (by omega)))
  have HQ := Lib.hid (show d * d' < P2 (L + L + 1) from lt_P2_mono (mul_lt_P2 hd hd') (by omega))
  have HLE := Lib.hid hle
  clear hle
  clear hn hd hn' hd'
  have c0 := kf.cell0
  have c1 := kf.cell1
  have c2 := kg.cell0
  have c3 := kg.cell1
  have hlt := kg.lt
  go_enter Try.func90, Try.ntmps90
  go_wp2_with fail
  obtain ⟨wo, hwo⟩ : ∃ wo : World, wo = ((w.alloc (.cells #[.slice ao k cap, .slice ao2 k2 cap2] 55)).alloc (.cells #[.slice ao3 k3 cap3, .slice ao4 k4 cap4] 55)).alloc (.cells #[.slice none 0 0, .slice none 0 0] 55) := ⟨_, rfl⟩
  rw [← hwo] at hB kr c0 c1 c2 c3 hlt ⊢
  clear hwo kf kg
  go_region_held3 (fun w' => w'.cell? ⟨w.heap.size, 0, none⟩ = some (.slice ao k cap) ∧ w'.cell? ⟨w.heap.size, 1, none⟩ = some (.slice ao2 k2 cap2) ∧ w'.cell? ⟨w.heap.size + 1, 0, none⟩ = some (.slice ao3 k3 cap3) ∧ w'.cell? ⟨w.heap.size + 1, 1, none⟩ = some (.slice ao4 k4 cap4) ∧ (∃ s t, Gx w' (w.heap.size + 1 + 1) s t ∧ NoInt #[s, t]) ∧ w.heap.size + 1 < w'.heap.size ∧ Below w.heap.size w w')
    (first
      | exact ⟨c0, c1, c2, c3, ⟨_, _, kr.below (Below.refl _ _).drew, NoInt.two⟩, hlt, hB.drew⟩
      | (go_split_ands; exact ⟨by assumption, by assumption, by assumption, by assumption, by assumption, by assumption, by assumption⟩)
      | (go_split_ands; exact gs_call ⟨by assumption, by assumption, by assumption, by assumption, by assumption, by assumption, by assumption⟩ bb)
      | (go_split_ands; exact gs_store _ _ ⟨by assumption, by assumption, by assumption, by assumption, by assumption, by assumption, by assumption⟩ kx NoInt.two))
    (first
      | (go_at_call 38; go_split_ands; (with_reducible refine (mulR_any (ia.below (by assumption)) (id.below (by assumption)) L (by omega) HN.out HD'.out).mono ?_); rintro e wq ⟨v1, rfl, i1, bb⟩; obtain ⟨s_, t_, kx, kn⟩ := gx_next (R := w.heap.size + 1 + 1) (by assumption) bb)
      | (go_at_call 38; go_split_ands; (with_reducible refine (mulR_any (ic.below (by assumption)) (ib.below (by assumption)) L (by omega) HN'.out HD.out).mono ?_); rintro e wq ⟨v5, rfl, i5, bb⟩; replace i1 := i1.below bb; obtain ⟨s_, t_, kx, kn⟩ := gx_next (R := w.heap.size + 1 + 1) (by assumption) bb)
      | (go_at_call 57; go_split_ands; (with_reducible refine (subR_any i1 i5 (L + L) (by omega) HA.out HLE.out).mono ?_); rintro e wq ⟨v6, rfl, i6, bb⟩; obtain ⟨s_, t_, kx, kn⟩ := gx_next (R := w.heap.size + 1 + 1) (by assumption) bb)
      | (go_at_call 38; go_split_ands; (with_reducible refine (mulR_any (ib.below (by assumption)) (id.below (by assumption)) L (by omega) HD.out HD'.out).mono ?_); rintro e wq ⟨v2, rfl, i2, bb⟩; replace i6 := i6.below bb; obtain ⟨s_, t_, kx, kn⟩ := gx_next (R := w.heap.size + 1 + 1) (by assumption) bb)
      | (go_at_call 48; go_split_ands; (with_reducible refine (lowR_any i6 i2 HDD.out (L + L + 1) (by omega) HP.out HQ.out).mono ?_); rintro e wq ⟨v8, rfl, i8, bb⟩; obtain ⟨ao7, k7, cap7, ao8, k8, cap8, rfl, i9, i10, h7⟩ := i8.slice; obtain ⟨s_, t_, kx, kn⟩ := gx_next (R := w.heap.size + 1 + 1) (by assumption) bb; have e0 := kx.cell0; have e1 := kx.cell1; have f0 := kx.free0; have f1 := kx.free1; have g0 := fun v => (kx.set0 v).cell1; have g1 := fun v => (kx.set0 v).free1))
  go_split_ands
  have hC := show Below w.heap.size w _ by assumption
  have d0 := ((kx.set0 (.slice ao7 k7 cap7)).set1 (.slice ao8 k8 cap8)).cell0
  have d1 := ((kx.set0 (.slice ao7 k7 cap7)).set1 (.slice ao8 k8 cap8)).cell1
  go_wp2
  refine bodyPost_ret (v := .agg #[.slice ao7 k7 cap7, .slice ao8 k8 cap8]) (by simp [results, Try.results90, go_sem, d0, d1]) rfl ⟨_, rfl, IsG.of ((i9.setG kx kn 0 _).setG (kx.set0 _) (noInt_set kn) 1 _) ((i10.setG kx kn 0 _).setG (kx.set0 _) (noInt_set kn) 1 _) h7, hC⟩

set_option maxHeartbeats 4000000 in
set_option maxRecDepth 100000 in
theorem mulG_any {w : World} {f g : Value} {n d n' d' : Nat} (hf : IsG w f n d) (hg : IsG w g n' d') (L : Nat) (hL : L ≤ 16384) (hn : n < P2 L) (hd : d < P2 L) (hn' : n' < P2 L) (hd' : d' < P2 L) :
    Calls Try.prog 87 #[f, g] w (RetG w ((n * n') / Nat.gcd (n * n') (d * d')) ((d * d') / Nat.gcd (n * n') (d * d'))) := by
  obtain ⟨ao, k, cap, ao2, k2, cap2, rfl, ia, ib, h0⟩ := hf.slice
  obtain ⟨ao3, k3, cap3, ao4, k4, cap4, rfl, ic, id, h1⟩ := hg.slice
  obtain ⟨hB, kf, kg, kr⟩ := pro3g w (.slice ao k cap) (.slice ao2 k2 cap2) (.slice ao3 k3 cap3) (.slice ao4 k4 cap4)
  have HN := Lib.hid hn
  have HD := Lib.hid hd
  have HN' := Lib.hid hn'
  have HD' := Lib.hid hd'
  have HDD := Lib.hid (show 0 < d * d' from Nat.mul_pos h0 h1)
  have HA := Lib.hid (mul_lt_P2 hn hd')
  have HB := Lib.hid (mul_lt_P2 hn' hd)
  have HP := Lib.hid (show n * n' < P2 (L + L + 1) from lt_P2_mono (mul_lt_P2 hn hn') (by omega))
  have HQ := Lib.hid (show d * d' < P2 (L + L + 1) from lt_P2_mono (mul_lt_P2 hd hd') (by omega))
  clear hn hd hn' hd'
  have c0 := kf.cell0
  have c1 := kf.cell1
  have c2 := kg.cell0
  have c3 := kg.cell1
  have hlt := kg.lt
  go_enter Try.func87, Try.ntmps87
  go_wp2_with fail
  obtain ⟨wo, hwo⟩ : ∃ wo : World, wo = ((w.alloc (.cells #[.slice ao k cap, .slice ao2 k2 cap2] 55)).alloc (.cells #[.slice ao3 k3 cap3, .slice ao4 k4 cap4] 55)).alloc (.cells #[.slice none 0 0, .slice none 0 0] 55) := ⟨_, rfl⟩
  rw [← hwo] at hB kr c0 c1 c2 c3 hlt ⊢
  clear hwo kf kg
  go_region_held3 (fun w' => w'.cell? ⟨w.heap.size, 0, none⟩ = some (.slice ao k cap) ∧ w'.cell? ⟨w.heap.size, 1, none⟩ = some (.slice ao2 k2 cap2) ∧ w'.cell? ⟨w.heap.size + 1, 0, none⟩ = some (.slice ao3 k3 cap3) ∧ w'.cell? ⟨w.heap.size + 1, 1, none⟩ = some (.slice ao4 k4 cap4) ∧ (∃ s t, Gx w' (w.heap.size + 1 + 1) s t ∧ NoInt #[s, t]) ∧ w.heap.size + 1 < w'.heap.size ∧ Below w.heap.size w w')
    (first
      | exact ⟨c0, c1, c2, c3, ⟨_, _, kr.below (Below.refl _ _).drew, NoInt.two⟩, hlt, hB.drew⟩
      | (go_split_ands; exact ⟨by assumption, by assumption, by assumption, by assumption, by assumption, by assumption, by assumption⟩)
      | (go_split_ands; exact gs_call ⟨by assumption, by assumption, by assumption, by assumption, by assumption, by assumption, by assumption⟩ bb)
      | (go_split_ands; exact gs_store _ _ ⟨by assumption, by assumption, by assumption, by assumption, by assumption, by assumption, by assumption⟩ kx NoInt.two))
    (first
      | (go_at_call 38; go_split_ands; (with_reducible refine (mulR_any (ia.below (by assumption)) (ic.below (by assumption)) L (by omega) HN.out HN'.out).mono ?_); rintro e wq ⟨v1, rfl, i1, bb⟩; obtain ⟨s_, t_, kx, kn⟩ := gx_next (R := w.heap.size + 1 + 1) (by assumption) bb)
      | (go_at_call 38; go_split_ands; (with_reducible refine (mulR_any (ib.below (by assumption)) (id.below (by assumption)) L (by omega) HD.out HD'.out).mono ?_); rintro e wq ⟨v2, rfl, i2, bb⟩; replace i1 := i1.below bb; obtain ⟨s_, t_, kx, kn⟩ := gx_next (R := w.heap.size + 1 + 1) (by assumption) bb)
      | (go_at_call 48; go_split_ands; (with_reducible refine (lowR_any i1 i2 HDD.out (L + L + 1) (by omega) HP.out HQ.out).mono ?_); rintro e wq ⟨v8, rfl, i8, bb⟩; obtain ⟨ao7, k7, cap7, ao8, k8, cap8, rfl, i9, i10, h7⟩ := i8.slice; obtain ⟨s_, t_, kx, kn⟩ := gx_next (R := w.heap.size + 1 + 1) (by assumption) bb; have e0 := kx.cell0; have e1 := kx.cell1; have f0 := kx.free0; have f1 := kx.free1; have g0 := fun v => (kx.set0 v).cell1; have g1 := fun v => (kx.set0 v).free1))
  go_split_ands
  have hC := show Below w.heap.size w _ by assumption
  have d0 := ((kx.set0 (.slice ao7 k7 cap7)).set1 (.slice ao8 k8 cap8)).cell0
  have d1 := ((kx.set0 (.slice ao7 k7 cap7)).set1 (.slice ao8 k8 cap8)).cell1
  go_wp2
  refine bodyPost_ret (v := .agg #[.slice ao7 k7 cap7, .slice ao8 k8 cap8]) (by simp [results, Try.results87, go_sem, d0, d1]) rfl ⟨_, rfl, IsG.of ((i9.setG kx kn 0 _).setG (kx.set0 _) (noInt_set kn) 1 _) ((i10.setG kx kn 0 _).setG (kx.set0 _) (noInt_set kn) 1 _) h7, hC⟩

set_option maxHeartbeats 4000000 in
set_option maxRecDepth 100000 in
theorem divG_any {w : World} {f g : Value} {n d n' d' : Nat} (hf : IsG w f n d) (hg : IsG w g n' d') (hn0' : 0 < n') (L : Nat) (hL : L ≤ 16384) (hn : n < P2 L) (hd : d < P2 L) (hn' : n' < P2 L) (hd' : d' < P2 L) :
    Calls Try.prog 92 #[f, g] w (RetG w ((n * d') / Nat.gcd (n * d') (d * n')) ((d * n') / Nat.gcd (n * d') (d * n'))) := by
  obtain ⟨ao, k, cap, ao2, k2, cap2, rfl, ia, ib, h0⟩ := hf.slice
  obtain ⟨ao3, k3, cap3, ao4, k4, cap4, rfl, ic, id, h1⟩ := hg.slice
  obtain ⟨hB, kf, kg, kr⟩ := pro3g w (.slice ao k cap) (.slice ao2 k2 cap2) (.slice ao3 k3 cap3) (.slice ao4 k4 cap4)
  have HN := Lib.hid hn
  have HD := Lib.hid hd
  have HN' := Lib.hid hn'
  have HD' := Lib.hid hd'
  have HDD := Lib.hid (show 0 < d * n' from Nat.mul_pos h0 hn0')
  have HA := Lib.hid (mul_lt_P2 hn hd')
  have HB := Lib.hid (mul_lt_P2 hn' hd)
  have HP := Lib.hid (show n * d' < P2 (L + L + 1) from lt_P2_mono (mul_lt_P2 hn hd') (by omega))
  have HQ := Lib.hid (show d * n' < P2 (L + L + 1) from lt_P2_mono (mul_lt_P2 hd hn') (by omega))
  clear hn hd hn' hd'
  have c0 := kf.cell0
  have c1 := kf.cell1
  have c2 := kg.cell0
  have c3 := kg.cell1
  have hlt := kg.lt
  go_enter Try.func92, Try.ntmps92
  go_wp2_with fail
  obtain ⟨wo, hwo⟩ : ∃ wo : World, wo = ((w.alloc (.cells #[.slice ao k cap, .slice ao2 k2 cap2] 55)).alloc (.cells #[.slice ao3 k3 cap3, .slice ao4 k4 cap4] 55)).alloc (.cells #[.slice none 0 0, .slice none 0 0] 55) := ⟨_, rfl⟩
  rw [← hwo] at hB kr c0 c1 c2 c3 hlt ⊢
  clear hwo kf kg
  go_region_held3 (fun w' => w'.cell? ⟨w.heap.size, 0, none⟩ = some (.slice ao k cap) ∧ w'.cell? ⟨w.heap.size, 1, none⟩ = some (.slice ao2 k2 cap2) ∧ w'.cell? ⟨w.heap.size + 1, 0, none⟩ = some (.slice ao3 k3 cap3) ∧ w'.cell? ⟨w.heap.size + 1, 1, none⟩ = some (.slice ao4 k4 cap4) ∧ (∃ s t, Gx w' (w.heap.size + 1 + 1) s t ∧ NoInt #[s, t]) ∧ w.heap.size + 1 < w'.heap.size ∧ Below w.heap.size w w')
    (first
      | exact ⟨c0, c1, c2, c3, ⟨_, _, kr.below (Below.refl _ _).drew, NoInt.two⟩, hlt, hB.drew⟩
      | (go_split_ands; exact ⟨by assumption, by assumption, by assumption, by assumption, by assumption, by assumption, by assumption⟩)
      | (go_split_ands; exact gs_call ⟨by assumption, by assumption, by assumption, by assumption, by assumption, by assumption, by assumption⟩ bb)
      | (go_split_ands; exact gs_store _ _ ⟨by assumption, by assumption, by assumption, by assumption, by assumption, by assumption, by assumption⟩ kx NoInt.two))
    (first
      | (go_at_call 38; go_split_ands; (with_reducible refine (mulR_any (ia.below (by assumption)) (id.below (by assumption)) L (by omega) HN.out HD'.out).mono ?_); rintro e wq ⟨v1, rfl, i1, bb⟩; obtain ⟨s_, t_, kx, kn⟩ := gx_next (R := w.heap.size + 1 + 1) (by assumption) bb)
      | (go_at_call 38; go_split_ands; (with_reducible refine (mulR_any (ib.below (by assumption)) (ic.below (by assumption)) L (by omega) HD.out HN'.out).mono ?_); rintro e wq ⟨v2, rfl, i2, bb⟩; replace i1 := i1.below bb; obtain ⟨s_, t_, kx, kn⟩ := gx_next (R := w.heap.size + 1 + 1) (by assumption) bb)
      | (go_at_call 48; go_split_ands; (with_reducible refine (lowR_any i1 i2 HDD.out (L + L + 1) (by omega) HP.out HQ.out).mono ?_); rintro e wq ⟨v8, rfl, i8, bb⟩; obtain ⟨ao7, k7, cap7, ao8, k8, cap8, rfl, i9, i10, h7⟩ := i8.slice; obtain ⟨s_, t_, kx, kn⟩ := gx_next (R := w.heap.size + 1 + 1) (by assumption) bb; have e0 := kx.cell0; have e1 := kx.cell1; have f0 := kx.free0; have f1 := kx.free1; have g0 := fun v => (kx.set0 v).cell1; have g1 := fun v => (kx.set0 v).free1))
  go_split_ands
  have hC := show Below w.heap.size w _ by assumption
  have d0 := ((kx.set0 (.slice ao7 k7 cap7)).set1 (.slice ao8 k8 cap8)).cell0
  have d1 := ((kx.set0 (.slice ao7 k7 cap7)).set1 (.slice ao8 k8 cap8)).cell1
  go_wp2
  refine bodyPost_ret (v := .agg #[.slice ao7 k7 cap7, .slice ao8 k8 cap8]) (by simp [results, Try.results92, go_sem, d0, d1]) rfl ⟨_, rfl, IsG.of ((i9.setG kx kn 0 _).setG (kx.set0 _) (noInt_set kn) 1 _) ((i10.setG kx kn 0 _).setG (kx.set0 _) (noInt_set kn) 1 _) h7, hC⟩

set_option maxHeartbeats 4000000 in
set_option maxRecDepth 100000 in
theorem cmpG_any {w : World} {f g : Value} {n d n' d' : Nat} (hf : IsG w f n d) (hg : IsG w g n' d') (L : Nat) (hL : L ≤ 16384) (hn : n < P2 L) (hd : d < P2 L) (hn' : n' < P2 L) (hd' : d' < P2 L) :
    Calls Try.prog 88 #[f, g] w (RetI w (cmpI (n * d') (n' * d))) := by
  obtain ⟨ao, k, cap, ao2, k2, cap2, rfl, ia, ib, h0⟩ := hf.slice
  obtain ⟨ao3, k3, cap3, ao4, k4, cap4, rfl, ic, id, h1⟩ := hg.slice
  obtain ⟨hB, kf⟩ := prog' w (.slice ao k cap) (.slice ao2 k2 cap2)
  have hz : (w.alloc (.cells #[.slice ao k cap, .slice ao2 k2 cap2] 55)).heap.size = w.heap.size + 1 := by simp
  obtain ⟨hC, kg⟩ := prog' (w.alloc (.cells #[.slice ao k cap, .slice ao2 k2 cap2] 55)) (.slice ao3 k3 cap3) (.slice ao4 k4 cap4)
  replace kf := kf.below hC
  replace hB := nextB hB hC
  rw [hz] at kg
  have HN := Lib.hid hn
  have HD := Lib.hid hd
  have HN' := Lib.hid hn'
  have HD' := Lib.hid hd'
  clear hn hd hn' hd' hz hC
  have c0 := kf.cell0
  have c1 := kf.cell1
  have c2 := kg.cell0
  have c3 := kg.cell1
  have hlt := kg.lt
  go_enter Try.func88, Try.ntmps88
  go_wp2_with fail
  obtain ⟨wo, hwo⟩ : ∃ wo : World, wo = (w.alloc (.cells #[.slice ao k cap, .slice ao2 k2 cap2] 55)).alloc (.cells #[.slice ao3 k3 cap3, .slice ao4 k4 cap4] 55) := ⟨_, rfl⟩
  rw [← hwo] at hB c0 c1 c2 c3 hlt ⊢
  clear hwo kf kg
  go_region_held3 (fun w' => w'.cell? ⟨w.heap.size, 0, none⟩ = some (.slice ao k cap) ∧ w'.cell? ⟨w.heap.size, 1, none⟩ = some (.slice ao2 k2 cap2) ∧ w'.cell? ⟨w.heap.size + 1, 0, none⟩ = some (.slice ao3 k3 cap3) ∧ w'.cell? ⟨w.heap.size + 1, 1, none⟩ = some (.slice ao4 k4 cap4) ∧ w.heap.size + 1 < w'.heap.size ∧ Below w.heap.size w w')
    (first
      | exact ⟨c0, c1, c2, c3, hlt, hB.drew⟩
      | (go_split_ands; exact ⟨by assumption, by assumption, by assumption, by assumption, by assumption, by assumption⟩)
      | (go_split_ands; exact fs_call2 ⟨by assumption, by assumption, by assumption, by assumption, by assumption, by assumption⟩ bb))
    (first
      | (go_at_call 38; go_split_ands; (with_reducible refine (mulR_any (ia.below (by assumption)) (id.below (by assumption)) L (by omega) HN.out HD'.out).mono ?_); rintro e wq ⟨v1, rfl, i1, bb⟩)
      | (go_at_call 38; go_split_ands; (with_reducible refine (mulR_any (ic.below (by assumption)) (ib.below (by assumption)) L (by omega) HN'.out HD.out).mono ?_); rintro e wq ⟨v5, rfl, i5, bb⟩; replace i1 := i1.below bb)
      | (go_at_call 55; go_split_ands; (with_reducible refine (cmpR_any i1 i5).mono ?_); rintro e wq ⟨rfl, bb⟩))
  go_split_ands
  have hC := show Below w.heap.size w _ by assumption
  go_wp2
  go_ret
  exact ⟨rfl, hC⟩

end Go.Proofs.Ytppbhjhbaknidaa
