/-
  The law ScriptPlantTexts, walked. Conditions: the package-level variables hold what the program lays.
-/
import Derived.Test.YtddnmocoaahlfaaGreatDoorPlR
set_option linter.unusedVariables false
set_option linter.unusedSimpArgs false

namespace Go.Proofs.YtddnmocoaahlfaaGreatDoor
open Go.RowKit Go.Shelf
set_option maxRecDepth 100000 in
set_option maxHeartbeats 8000000 in
theorem plantTexts_walk {w : World} (he : Env w) (s : ByteArray) : Calls Tryz.prog 17 #[.string s] w (RetT w) := by
  have HA := Lib.hid (fun W hW => awake_any (he.below (w' := W) hW))
  by_cases hbig : 5000 < s.size
  · have hd : decide ((5000 : Int) < (s.size : Int)) = true := decide_eq_true (by omega)
    clear he
    go_enter Tryz.func17, Tryz.ntmps17
    go_wp2_with fail
    refine (HA.out w (Below.refl _ _)).mono ?_
    rintro ex w2 ⟨rfl, b2⟩
    go_wp2_with fail
    go_ret
    exact ⟨rfl, b2⟩
  have hd : decide ((5000 : Int) < (s.size : Int)) = false := decide_eq_false (by omega)
  have hp := parsePlant_any he s (by omega)
  have hp2 : ∀ W, Calls Tryz.prog 40 #[.string s] W (RetPl W (parsePlantT (txt s))) := fun W => parsePlantR_any s (by omega)
  have hlen : (parsePlantT (txt s)).1.banned.length ≤ maxLen := by
    by_cases h0 : (parsePlantT (txt s)).2.2 = 0
    · have q1 := plant_only (p := (parsePlantT (txt s)).1) (m := (parsePlantT (txt s)).2.1) (t := txt s) (by rw [← h0])
      have q3 := plantT_long q1
      have h1 : ∀ l : List (List UInt8), l.length ≤ (l.map (fun b => b.length + 1)).sum := by
        intro l
        induction l with
        | nil => exact Nat.le_refl _
        | cons x l ih => simp only [List.map_cons, List.sum_cons, List.length_cons]; omega
      have := h1 (parsePlantT (txt s)).1.banned
      have h2 : (txt s).length = s.size := by simp
      unfold maxLen
      omega
    · have hz : ∀ (ws : List (List UInt8)) (k : Nat) (p : Pl) (t : List UInt8), (plantGo ws k p t).2.2 ≠ 0 → (plantGo ws k p t).1 = plZero := by
        intro ws
        induction ws with
        | nil =>
          intro k p t h
          unfold plantGo at h ⊢
          split at h
          · exact absurd rfl h
          · rename_i h1; rw [if_neg h1]
        | cons w ws ih =>
          intro k p t h
          unfold plantGo at h ⊢
          cases hc : cut1 t with
          | none => rfl
          | some lr =>
            rw [hc] at h
            simp only at h ⊢
            cases hl : lineP k w p (cutAt 32 lr.1) with
            | none => rfl
            | some q =>
              rw [hl] at h
              exact ih _ _ _ h
      have h2 : (parsePlantT (txt s)).1 = plZero := hz _ _ _ _ h0
      rw [h2]
      exact Nat.zero_le _
  have HP := Lib.hid hp
  have HP2 := Lib.hid hp2
  have HLEN := Lib.hid hlen
  clear hp hp2 hlen he hbig
  generalize parsePlantT (txt s) = r at *
  obtain ⟨pl, m, e⟩ := r
  simp only at HLEN
  go_enter Tryz.func17, Tryz.ntmps17
  go_wp2_with fail
  refine HP.out.mono ?_
  rintro ex w1 ⟨b1, q, bv, ss, rfl, hr, hq⟩
  simp only at hq ⊢
  obtain ⟨ba, bc, rfl⟩ := hr.form
  have hsm : ss.length ≤ maxLen := by
    have h1 : (q.pl (ss.map txt)).banned.length = ss.length := by show (ss.map txt).length = _; simp
    rw [hq] at h1
    rw [← h1]; exact HLEN.out
  obtain ⟨w2, hw2⟩ : ∃ w2, w2 = w1.alloc (.cells (PV.zero.cells (.slice none 0 0)) 35) := ⟨_, rfl⟩
  have b12 : Below w1.heap.size w1 w2 := by rw [hw2]; exact (Below.refl _ _).alloc (Nat.le_refl _) _
  have B2 : Blk w2 w1.heap.size (PV.zero.cells (.slice none 0 0)) 35 := by rw [hw2]; exact Blk.new w1 _ _
  have hst := blk_store (c' := q.cells (.slice ba ss.length bc)) B2 size35' rfl rfl
  have B3 := setRow_heap w2 w1.heap.size _ (q.cells (.slice ba ss.length bc)) 35 B2
  have b13 : Below w1.heap.size w1 (w2.setRow w1.heap.size (q.cells (.slice ba ss.length bc))) := b12.trans ((setRow_stays w2 w1.heap.size (q.cells (.slice ba ss.length bc))).below b12.size (fun j hj e => by have e' : j = w1.heap.size := e; omega))
  have hz := zero35 w1
  rw [← hw2] at hz
  obtain ⟨w3, hw3⟩ : ∃ w3, w3 = w2.setRow w1.heap.size (q.cells (.slice ba ss.length bc)) := ⟨_, rfl⟩
  rw [← hw3] at hst B3 b13
  have l3 := b1.trans (b13.mono b1.size)
  have hr3 := hr.below b13
  have HZ := Lib.hid hz
  have HST := Lib.hid hst
  have HR3 := Lib.hid hr3
  have HQ := Lib.hid hq
  have HC := Lib.hid (HP2.out w3)
  have HSM := Lib.hid hsm
  clear hz hst hr3 hq hw3 hw2 hr B2 b12 b13 HP HP2 hsm b1
  go_wp2_with (first | (refine wpList_val (o := ⟨some 3, _, _, _, _, _⟩) rfl (Instr.alloc 35 true _) rfl _ HZ.out ?_) | (refine wpList_unit (o := ⟨none, Op.store 35 (.tmp 3) _, _, _, _, _⟩) rfl rfl (Instr.storeAt 35 _ _) rfl HST.out ?_) | fail)
  refine HC.out.mono ?_
  rintro ex w4 ⟨b4, q', bv', ss', rfl, hr', hq'⟩
  simp only at hq' ⊢
  obtain ⟨ba', bc', rfl⟩ := hr'.form
  have hqq := hq'.trans HQ.out.symm
  obtain ⟨h1, h2⟩ := PV.pl_inj hqq
  have h3 := txt_map_inj h2
  subst h1
  subst h3
  have l4 := l3.trans (b4.mono l3.size)
  have B34 := B3.below b4
  obtain ⟨w5, hw5⟩ : ∃ w5, w5 = w4.alloc (.cells (PV.zero.cells (.slice none 0 0)) 35) := ⟨_, rfl⟩
  have b45 : Below w4.heap.size w4 w5 := by rw [hw5]; exact (Below.refl _ _).alloc (Nat.le_refl _) _
  have B5 : Blk w5 w4.heap.size (PV.zero.cells (.slice none 0 0)) 35 := by rw [hw5]; exact Blk.new w4 _ _
  have hst := blk_store (c' := q'.cells (.slice ba' ss'.length bc')) B5 size35' rfl rfl
  have B6 := setRow_heap w5 w4.heap.size _ (q'.cells (.slice ba' ss'.length bc')) 35 B5
  have b46 : Below w4.heap.size w4 (w5.setRow w4.heap.size (q'.cells (.slice ba' ss'.length bc'))) := b45.trans ((setRow_stays w5 w4.heap.size (q'.cells (.slice ba' ss'.length bc'))).below b45.size (fun j hj e => by have e' : j = w4.heap.size := e; omega))
  have hz := zero35 w4
  rw [← hw5] at hz
  obtain ⟨w6, hw6⟩ : ∃ w6, w6 = w5.setRow w4.heap.size (q'.cells (.slice ba' ss'.length bc')) := ⟨_, rfl⟩
  rw [← hw6] at hst B6 b46
  have l6 := l4.trans (b46.mono l4.size)
  have B36 := B34.below b46
  have HS := Lib.hid (samePlant_eq (q := q') ((HR3.out.below b4).below b46) (hr'.below b46) HSM.out)
  have HZ := Lib.hid hz
  have HST := Lib.hid hst
  obtain ⟨cs, hcs⟩ : ∃ cs, cs = q'.cells (.slice ba ss'.length bc) := ⟨_, rfl⟩
  obtain ⟨cs', hcs'⟩ : ∃ cs', cs' = q'.cells (.slice ba' ss'.length bc') := ⟨_, rfl⟩
  have hc1 : cs.size = 19 := by rw [hcs]; rfl
  have hc2 : cs'.size = 19 := by rw [hcs']; rfl
  rw [← hcs, ← hcs'] at HS
  rw [← hcs] at B36 ⊢
  rw [← hcs'] at B6 HST ⊢
  have C1 := Lib.hid hc1
  have C2 := Lib.hid hc2
  have HL6 := Lib.hid l6
  clear hz hst hw5 hw6 B5 B34 B3 b45 b46 hr' hq' hqq h2 HC HQ hcs hcs' hc1 hc2 l3 l4 l6
  go_upto_region 5 with (first | (refine wpList_val (o := ⟨some 6, _, _, _, _, _⟩) rfl (Instr.alloc 35 true _) rfl _ HZ.out ?_) | (refine wpList_unit (o := ⟨none, Op.store 35 (.tmp 6) _, _, _, _, _⟩) rfl rfl (Instr.storeAt 35 _ _) rfl HST.out ?_) | fail)
  go_wp2_with (first | (refine wpList_val (o := ⟨some 25, Op.load 35 _, _, _, _, _⟩) rfl (Instr.loadAt 35 _) rfl _ (pl_load B36 C1.out) ?_) | (refine wpList_val (o := ⟨some 26, Op.load 35 _, _, _, _, _⟩) rfl (Instr.loadAt 35 _) rfl _ (pl_load B6 C2.out) ?_) | fail)
  refine HS.out.mono ?_
  rintro ex w7 ⟨rfl, b7⟩
  have l7 := HL6.out.trans (b7.mono HL6.out.size)
  have HAA := Lib.hid (HA.out w7 l7)
  clear HA HS
  go_wp2_with fail
  refine HAA.out.mono ?_
  rintro ex w8 ⟨rfl, b8⟩
  go_wp2_with fail
  go_ret
  exact ⟨rfl, l7.trans (b8.mono l7.size)⟩
end Go.Proofs.YtddnmocoaahlfaaGreatDoor
