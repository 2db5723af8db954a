/-
  Parse. Conditions: the package-level variables hold what the program lays; lines of at most 65536 bytes.
-/
import Derived.Test.YtddnmocoaahlfaaGreatDoorZr
set_option linter.unusedVariables false
set_option linter.unusedSimpArgs false

namespace Go.Proofs.YtddnmocoaahlfaaGreatDoor
open Go.RowKit Go.Shelf
theorem make_five (k : Nat) (l : List Int) : ∃ a b c d f, (makeActL k l).f = [a, b, c, d, f] := by
  unfold makeActL
  split
  · exact ⟨0, 0, 0, 0, 0, rfl⟩
  · exact five (by simp)
set_option maxRecDepth 100000 in
set_option maxHeartbeats 8000000 in
theorem parseP_any {w : World} (he : Env w) (s : ByteArray) (hs : s.size ≤ 65536) : Calls Tryz.prog 21 #[.string s] w (RetAE w (parseT (txt s))) := by
  obtain ⟨w1, hw1⟩ : ∃ w1, w1 = w.alloc (.cells #[.int .i64 0, .int .i64 0, .int .i64 0, .int .i64 0, .int .i64 0, .int .i64 0, .slice none 0 0] 24) := ⟨_, rfl⟩
  have l1 : Below w.heap.size w w1 := by rw [hw1]; exact (Below.refl _ _).alloc (Nat.le_refl _) _
  have bR : Blk w1 w.heap.size #[.int .i64 0, .int .i64 0, .int .i64 0, .int .i64 0, .int .i64 0, .int .i64 0, .slice none 0 0] 24 := by rw [hw1]; exact Blk.new w _ _
  obtain ⟨u, us, hcut⟩ := cut_cons 32 (txt s)
  obtain ⟨res, hres⟩ : ∃ res, res = parseT (txt s) := ⟨_, rfl⟩
  rw [parseT_of hcut] at hres
  rw [parseT_of hcut, ← hres]
  have hcl := cut_len 32 (txt s)
  have hsz : (txt s).length = s.size := by simp
  rw [hcut] at hcl
  have hus : us.length ≤ 65536 := by have := hcl.2; simp at this; omega
  have hup : ∀ p ∈ us, p.length ≤ 65536 := fun p hp => by have := hcl.1 p (by simp [hp]); omega
  have hp := split_any (he.maxv.below l1) s 32 hs
  rw [hcut] at hp
  have HP := Lib.hid hp
  have HW := Lib.hid hw1
  have HRES := Lib.hid hres
  have HUS := Lib.hid hus
  have HUP := Lib.hid hup
  have HE := Lib.hid he
  clear hp hw1 hres hcl hsz hcut hus hup he
  go_enter Tryz.func21, Tryz.ntmps21
  go_wp2_with fail
  rw [← HW.out]
  refine HP.out.mono ?_
  rintro e w2 ⟨ss, rfl, htx, hw2⟩
  have b12 : Below w1.heap.size w1 w2 := by rw [hw2]; exact (Below.refl _ _).alloc (Nat.le_refl _) _
  have l2 := l1.trans (b12.mono l1.size)
  have B2 := bR.below b12
  have hz2 : w2.heap.size = w1.heap.size + 1 := by rw [hw2]; simp
  have hrow2 : ∀ j (h : j < ss.length), w2.cell? ⟨w1.heap.size, 0 + j, none⟩ = some (.string ss[j]) := fun j hj => by
    rw [hw2, (Blk.new w1 _ _).cell (0 + j)]
    simp [hj]
  obtain ⟨s0, st, rfl⟩ : ∃ s0 st, ss = s0 :: st := by
    cases ss with
    | nil => cases htx
    | cons a b => exact ⟨a, b, rfl⟩
  have hsr : SRw w2 (.slice (some ⟨w1.heap.size, 0, none⟩) (s0 :: st).length (s0 :: st).length) (s0 :: st) := .inr ⟨by simp, _, 0, _, rfl, Nat.le_refl _, hrow2⟩
  simp only [List.map_cons, List.cons.injEq] at htx
  obtain ⟨hu, hst⟩ := htx
  obtain ⟨g, o, c, hv, hc, hc0, A, hsl, htail⟩ := srw_tail hsr
  rw [hv]
  have hstl : st.length ≤ 65536 := by
    have : st.length = us.length := by rw [← hst]; simp
    have := HUS.out
    omega
  have hstz : ∀ x ∈ st, x.size ≤ 65536 := fun x hx => by
    have := HUP.out (txt x) (by rw [← hst]; exact List.mem_map.2 ⟨x, hx, rfl⟩)
    simp at this
    omega
  have hK := actOf_any (HE.out.acts.below l2) s0
  rw [hu] at hK
  have HK := Lib.hid hK
  have HSL := Lib.hid hsl
  have HT := Lib.hid htail
  have HST := Lib.hid hst
  have HSZ := Lib.hid hstz
  have HB2 := Lib.hid B2
  have hk17 := actOf_le17 u
  generalize hkk : actOfL u = k at *
  clear bR hsr htail hsl hu hst hrow2 B2 HP hw2 hz2 hv hK hkk hstz
  go_wp2_with fail
  refine HK.out.mono ?_
  rintro e w3 ⟨rfl, b3⟩
  have l3 := l2.trans (b3.mono l2.size)
  have HN := Lib.hid (undecAll_any (HE.out.below l3) (HT.out.below b3) (by omega) HSZ.out)
  rw [HST.out] at HN
  have B3 := HB2.out.below b3
  clear hc0 HK
  go_wp2_with (refine wpList_val (o := ⟨some 16, _, _, _, _, _⟩) rfl (Instr.sliceAt 27 _ _ _ _) rfl _ (HSL.out _) ?_)
  refine HN.out.mono ?_
  rintro e w4 ⟨b4, h4⟩
  have l4 := l3.trans (b4.mono l3.size)
  have B4 := B3.below b4
  have hRlt : w.heap.size < w3.heap.size := B3.lt
  clear HN
  cases hun : undecAllL us with
  | none =>
    rw [hun] at h4
    subst h4
    have hr : res = (actZero, 4) := by rw [HRES.out]; exact parseAct_none hun
    subst hr
    have HUN := Lib.hid hun
    clear hun
    by_cases hk0 : k = 0
    · have d0 : ((k : Int) == 0) = true := by simp [hk0]
      clear hk0
      go_wp2_with (refine wpList_unit (o := ⟨none, Op.store 24 (.tmp 2) _, _, _, _, _⟩) rfl rfl (Instr.storeAt 24 _ _) rfl (blk_store (c' := #[.int .i64 0, .int .i64 0, .int .i64 0, .int .i64 0, .int .i64 0, .int .i64 0, .slice none 0 0]) B4 size24 rfl rfl) ?_)
      have hB7 := setRow_heap w4 w.heap.size _ #[.int .i64 0, .int .i64 0, .int .i64 0, .int .i64 0, .int .i64 0, .int .i64 0, .slice none 0 0] 24 B4
      have hl7 := l4.trans ((setRow_stays w4 w.heap.size #[.int .i64 0, .int .i64 0, .int .i64 0, .int .i64 0, .int .i64 0, .int .i64 0, .slice none 0 0]).below l4.size (fun j hj e => by omega))
      obtain ⟨w7, hw7⟩ : ∃ w7, w7 = w4.setRow w.heap.size #[.int .i64 0, .int .i64 0, .int .i64 0, .int .i64 0, .int .i64 0, .int .i64 0, .slice none 0 0] := ⟨_, rfl⟩
      rw [← hw7] at hB7 hl7
      rw [← hw7]
      obtain ⟨y0, y1, y2, y3, y4, y5, y6⟩ := acts_cells hB7
      refine ⟨rfl, .tuple #[actV 0 0 0 0 0 0 (.slice none 0 0), .int .i64 4], ?_, hl7, 0, 0, 0, 0, 0, none, 0, 0, rfl, rfl, .inl ⟨rfl, _, _, rfl⟩⟩
      simp [results, Tryz.results21, go_sem, y0, y1, y2, y3, y4, y5, y6]
    · have d0 : ((k : Int) == 0) = false := by simp; omega
      clear hk0
      go_wp2_with (refine wpList_unit (o := ⟨none, Op.store 24 (.tmp 2) _, _, _, _, _⟩) rfl rfl (Instr.storeAt 24 _ _) rfl (blk_store (c' := #[.int .i64 0, .int .i64 0, .int .i64 0, .int .i64 0, .int .i64 0, .int .i64 0, .slice none 0 0]) B4 size24 rfl rfl) ?_)
      have hB7 := setRow_heap w4 w.heap.size _ #[.int .i64 0, .int .i64 0, .int .i64 0, .int .i64 0, .int .i64 0, .int .i64 0, .slice none 0 0] 24 B4
      have hl7 := l4.trans ((setRow_stays w4 w.heap.size #[.int .i64 0, .int .i64 0, .int .i64 0, .int .i64 0, .int .i64 0, .int .i64 0, .slice none 0 0]).below l4.size (fun j hj e => by omega))
      obtain ⟨w7, hw7⟩ : ∃ w7, w7 = w4.setRow w.heap.size #[.int .i64 0, .int .i64 0, .int .i64 0, .int .i64 0, .int .i64 0, .int .i64 0, .slice none 0 0] := ⟨_, rfl⟩
      rw [← hw7] at hB7 hl7
      rw [← hw7]
      obtain ⟨y0, y1, y2, y3, y4, y5, y6⟩ := acts_cells hB7
      refine ⟨rfl, .tuple #[actV 0 0 0 0 0 0 (.slice none 0 0), .int .i64 4], ?_, hl7, 0, 0, 0, 0, 0, none, 0, 0, rfl, rfl, .inl ⟨rfl, _, _, rfl⟩⟩
      simp [results, Tryz.results21, go_sem, y0, y1, y2, y3, y4, y5, y6]
  | some l =>
    rw [hun] at h4
    obtain ⟨v, rfl, hrow⟩ := h4
    obtain ⟨pv, cv, rfl⟩ := (nrow_of hrow).form
    have hll : l.length ≤ 65536 := by
      have h2 := (undecAll_iff.1 hun).2
      have := congrArg List.length h2
      simp at this
      have := HUS.out
      omega
    have HUN := Lib.hid hun
    clear hun
    by_cases hk0 : k = 0
    · have d0 : ((k : Int) == 0) = true := by simp [hk0]
      have hr : res = (actZero, 4) := by rw [HRES.out]; exact parseAct_bad HUN.out hk17 (.inl hk0)
      subst hr
      clear hk0
      go_wp2_with (refine wpList_unit (o := ⟨none, Op.store 24 (.tmp 2) _, _, _, _, _⟩) rfl rfl (Instr.storeAt 24 _ _) rfl (blk_store (c' := #[.int .i64 0, .int .i64 0, .int .i64 0, .int .i64 0, .int .i64 0, .int .i64 0, .slice none 0 0]) B4 size24 rfl rfl) ?_)
      have hB7 := setRow_heap w4 w.heap.size _ #[.int .i64 0, .int .i64 0, .int .i64 0, .int .i64 0, .int .i64 0, .int .i64 0, .slice none 0 0] 24 B4
      have hl7 := l4.trans ((setRow_stays w4 w.heap.size #[.int .i64 0, .int .i64 0, .int .i64 0, .int .i64 0, .int .i64 0, .int .i64 0, .slice none 0 0]).below l4.size (fun j hj e => by omega))
      obtain ⟨w7, hw7⟩ : ∃ w7, w7 = w4.setRow w.heap.size #[.int .i64 0, .int .i64 0, .int .i64 0, .int .i64 0, .int .i64 0, .int .i64 0, .slice none 0 0] := ⟨_, rfl⟩
      rw [← hw7] at hB7 hl7
      rw [← hw7]
      obtain ⟨y0, y1, y2, y3, y4, y5, y6⟩ := acts_cells hB7
      refine ⟨rfl, .tuple #[actV 0 0 0 0 0 0 (.slice none 0 0), .int .i64 4], ?_, hl7, 0, 0, 0, 0, 0, none, 0, 0, rfl, rfl, .inl ⟨rfl, _, _, rfl⟩⟩
      simp [results, Tryz.results21, go_sem, y0, y1, y2, y3, y4, y5, y6]
    have d0 : ((k : Int) == 0) = false := by simp; omega
    obtain ⟨j, rfl⟩ : ∃ j, k = j + 1 := ⟨k - 1, by omega⟩
    have hj : j < 17 := by omega
    have hwj : ((j : Int) + 1 - 1) = j := by omega
    have hnum := acts_num (HE.out.acts.below l4) hj
    have hfg := fields_get hj
    have hA0 := (HE.out.acts.below l4).1
    cases htk : takesR (j + 1) l.length with
    | false =>
      have hr : res = (actZero, 4) := by rw [HRES.out]; exact parseAct_bad HUN.out hk17 (.inr htk)
      subst hr
      have hbad := mt (takes_iff hk0 hk17).2 (by rw [htk]; simp)
      have hbad2 : ((j + 1 ≠ 17 ∧ l.length ≠ fieldsOf (j + 1)) ∨ l.length > 16) := Classical.not_not.1 hbad
      rw [hfg] at hbad2
      generalize (actWords[j]!).2 = fs at *
      have HBAD := Lib.hid hbad2
      clear hbad hbad2 hk0 htk hfg
      by_cases h17 : j + 1 = 17
      · have e17 : (((j : Int) + 1) != 17) = false := by simp; omega
        have h16 : decide ((16 : Int) < (l.length : Int)) = true := decide_eq_true (by have := HBAD.out; omega)
        clear h17
        go_wp2_with (refine wpList_unit (o := ⟨none, Op.store 24 (.tmp 2) _, _, _, _, _⟩) rfl rfl (Instr.storeAt 24 _ _) rfl (blk_store (c' := #[.int .i64 0, .int .i64 0, .int .i64 0, .int .i64 0, .int .i64 0, .int .i64 0, .slice none 0 0]) B4 size24 rfl rfl) ?_)
        have hB7 := setRow_heap w4 w.heap.size _ #[.int .i64 0, .int .i64 0, .int .i64 0, .int .i64 0, .int .i64 0, .int .i64 0, .slice none 0 0] 24 B4
        have hl7 := l4.trans ((setRow_stays w4 w.heap.size #[.int .i64 0, .int .i64 0, .int .i64 0, .int .i64 0, .int .i64 0, .int .i64 0, .slice none 0 0]).below l4.size (fun j hj e => by omega))
        obtain ⟨w7, hw7⟩ : ∃ w7, w7 = w4.setRow w.heap.size #[.int .i64 0, .int .i64 0, .int .i64 0, .int .i64 0, .int .i64 0, .int .i64 0, .slice none 0 0] := ⟨_, rfl⟩
        rw [← hw7] at hB7 hl7
        rw [← hw7]
        obtain ⟨y0, y1, y2, y3, y4, y5, y6⟩ := acts_cells hB7
        refine ⟨rfl, .tuple #[actV 0 0 0 0 0 0 (.slice none 0 0), .int .i64 4], ?_, hl7, 0, 0, 0, 0, 0, none, 0, 0, rfl, rfl, .inl ⟨rfl, _, _, rfl⟩⟩
        simp [results, Tryz.results21, go_sem, y0, y1, y2, y3, y4, y5, y6]
      · have e17 : (((j : Int) + 1) != 17) = true := by simp; omega
        by_cases hfl : l.length = fs
        · have e3 : ((l.length : Int) != (fs : Int)) = false := by simp [hfl]
          have h16 : decide ((16 : Int) < (l.length : Int)) = true := decide_eq_true (by have := HBAD.out; omega)
          clear h17 hfl
          go_wp2_with (refine wpList_unit (o := ⟨none, Op.store 24 (.tmp 2) _, _, _, _, _⟩) rfl rfl (Instr.storeAt 24 _ _) rfl (blk_store (c' := #[.int .i64 0, .int .i64 0, .int .i64 0, .int .i64 0, .int .i64 0, .int .i64 0, .slice none 0 0]) B4 size24 rfl rfl) ?_)
          have hB7 := setRow_heap w4 w.heap.size _ #[.int .i64 0, .int .i64 0, .int .i64 0, .int .i64 0, .int .i64 0, .int .i64 0, .slice none 0 0] 24 B4
          have hl7 := l4.trans ((setRow_stays w4 w.heap.size #[.int .i64 0, .int .i64 0, .int .i64 0, .int .i64 0, .int .i64 0, .int .i64 0, .slice none 0 0]).below l4.size (fun j hj e => by omega))
          obtain ⟨w7, hw7⟩ : ∃ w7, w7 = w4.setRow w.heap.size #[.int .i64 0, .int .i64 0, .int .i64 0, .int .i64 0, .int .i64 0, .int .i64 0, .slice none 0 0] := ⟨_, rfl⟩
          rw [← hw7] at hB7 hl7
          rw [← hw7]
          obtain ⟨y0, y1, y2, y3, y4, y5, y6⟩ := acts_cells hB7
          refine ⟨rfl, .tuple #[actV 0 0 0 0 0 0 (.slice none 0 0), .int .i64 4], ?_, hl7, 0, 0, 0, 0, 0, none, 0, 0, rfl, rfl, .inl ⟨rfl, _, _, rfl⟩⟩
          simp [results, Tryz.results21, go_sem, y0, y1, y2, y3, y4, y5, y6]
        · have e3 : ((l.length : Int) != (fs : Int)) = true := by simp; omega
          clear h17 hfl
          go_wp2_with (refine wpList_unit (o := ⟨none, Op.store 24 (.tmp 2) _, _, _, _, _⟩) rfl rfl (Instr.storeAt 24 _ _) rfl (blk_store (c' := #[.int .i64 0, .int .i64 0, .int .i64 0, .int .i64 0, .int .i64 0, .int .i64 0, .slice none 0 0]) B4 size24 rfl rfl) ?_)
          have hB7 := setRow_heap w4 w.heap.size _ #[.int .i64 0, .int .i64 0, .int .i64 0, .int .i64 0, .int .i64 0, .int .i64 0, .slice none 0 0] 24 B4
          have hl7 := l4.trans ((setRow_stays w4 w.heap.size #[.int .i64 0, .int .i64 0, .int .i64 0, .int .i64 0, .int .i64 0, .int .i64 0, .slice none 0 0]).below l4.size (fun j hj e => by omega))
          obtain ⟨w7, hw7⟩ : ∃ w7, w7 = w4.setRow w.heap.size #[.int .i64 0, .int .i64 0, .int .i64 0, .int .i64 0, .int .i64 0, .int .i64 0, .slice none 0 0] := ⟨_, rfl⟩
          rw [← hw7] at hB7 hl7
          rw [← hw7]
          obtain ⟨y0, y1, y2, y3, y4, y5, y6⟩ := acts_cells hB7
          refine ⟨rfl, .tuple #[actV 0 0 0 0 0 0 (.slice none 0 0), .int .i64 4], ?_, hl7, 0, 0, 0, 0, 0, none, 0, 0, rfl, rfl, .inl ⟨rfl, _, _, rfl⟩⟩
          simp [results, Tryz.results21, go_sem, y0, y1, y2, y3, y4, y5, y6]
    | true =>
      have hgood := (takes_iff hk0 hk17).1 htk
      have hr : res = (makeActL (j + 1) l, 0) := by rw [HRES.out]; exact parseAct_ok HUN.out hk17 hk0 htk
      have hl16 := takes_len htk
      have hf5 := acts_le j hj
      rw [hfg] at hgood
      have hmk := makeAct_any (k := j + 1) hrow hk17 hl16 (fun h17 => by omega)
      obtain ⟨a, b, cc, d, f, h5⟩ := make_five (j + 1) l
      rw [show ((j + 1 : Nat) : Int) = (j : Int) + 1 from by omega] at hmk
      have hmkk : (makeActL (j + 1) l).kind = j + 1 := by unfold makeActL; split <;> rfl
      have HMK := Lib.hid hmk
      have H5 := Lib.hid h5
      have HMKK := Lib.hid hmkk
      have HR := Lib.hid hr
      have h16 : decide ((16 : Int) < (l.length : Int)) = false := decide_eq_false (by omega)
      generalize (actWords[j]!).2 = fs at *
      have HG := Lib.hid hgood
      clear hgood hr hmk h5 hmkk hk0 htk hfg
      by_cases h17 : j + 1 = 17
      · have e17 : (((j : Int) + 1) != 17) = false := by simp; omega
        clear h17
        go_wp2_with fail
        refine HMK.out.mono ?_
        rintro e w5 ⟨b5, kv, rfl, hkv⟩
        have hkn := nrow_of hkv
        obtain ⟨pk, ck, rfl⟩ := hkn.form
        have l5 := l4.trans (b5.mono l4.size)
        have B5 := B4.below b5
        have hac : (actCells (makeActL (j + 1) l) (.slice pk (makeActL (j + 1) l).keep.length ck)).toArray = #[.int .i64 ((j + 1 : Nat) : Int), .int .i64 a, .int .i64 b, .int .i64 cc, .int .i64 d, .int .i64 f, .slice pk (makeActL (j + 1) l).keep.length ck] := by unfold actCells; rw [HMKK.out, H5.out]; rfl
        rw [hac]
        go_wp2_with (refine wpList_unit (o := ⟨none, Op.store 24 (.tmp 2) _, _, _, _, _⟩) rfl rfl (Instr.storeAt 24 _ _) rfl (blk_store (c' := #[.int .i64 ((j + 1 : Nat) : Int), .int .i64 a, .int .i64 b, .int .i64 cc, .int .i64 d, .int .i64 f, .slice pk (makeActL (j + 1) l).keep.length ck]) B5 size24 rfl rfl) ?_)
        have hB7 := setRow_heap w5 w.heap.size _ #[.int .i64 ((j + 1 : Nat) : Int), .int .i64 a, .int .i64 b, .int .i64 cc, .int .i64 d, .int .i64 f, .slice pk (makeActL (j + 1) l).keep.length ck] 24 B5
        have hs7 := setRow_stays w5 w.heap.size #[.int .i64 ((j + 1 : Nat) : Int), .int .i64 a, .int .i64 b, .int .i64 cc, .int .i64 d, .int .i64 f, .slice pk (makeActL (j + 1) l).keep.length ck]
        have hl7 := l5.trans (hs7.below l5.size (fun j hj e => by omega))
        obtain ⟨w7, hw7⟩ : ∃ w7, w7 = w5.setRow w.heap.size #[.int .i64 ((j + 1 : Nat) : Int), .int .i64 a, .int .i64 b, .int .i64 cc, .int .i64 d, .int .i64 f, .slice pk (makeActL (j + 1) l).keep.length ck] := ⟨_, rfl⟩
        rw [← hw7] at hB7 hl7 hs7
        rw [← hw7]
        obtain ⟨y0, y1, y2, y3, y4, y5, y6⟩ := acts_cells hB7
        have hnr7 := nrow_stays hkn hs7 (fun L o c h h0 => by
          injection h with h _ _
          subst h
          have := (hkv.lt L rfl).1
          have := l4.size
          have := B4.lt
          intro e
          omega)
        unfold RetAE
        rw [HR.out]
        refine ⟨rfl, .tuple #[actV ((j + 1 : Nat) : Int) a b cc d f (.slice pk (makeActL (j + 1) l).keep.length ck), .int .i64 0], ?_, hl7, a, b, cc, d, f, pk, (makeActL (j + 1) l).keep.length, ck, by rw [HMKK.out], H5.out, hnr7⟩
        simp [results, Tryz.results21, go_sem, y0, y1, y2, y3, y4, y5, y6]
      · have e17 : (((j : Int) + 1) != 17) = true := by simp; omega
        have e3 : ((l.length : Int) != (fs : Int)) = false := by have := HG.out; simp; omega
        clear h17
        go_wp2_with fail
        refine HMK.out.mono ?_
        rintro e w5 ⟨b5, kv, rfl, hkv⟩
        have hkn := nrow_of hkv
        obtain ⟨pk, ck, rfl⟩ := hkn.form
        have l5 := l4.trans (b5.mono l4.size)
        have B5 := B4.below b5
        have hac : (actCells (makeActL (j + 1) l) (.slice pk (makeActL (j + 1) l).keep.length ck)).toArray = #[.int .i64 ((j + 1 : Nat) : Int), .int .i64 a, .int .i64 b, .int .i64 cc, .int .i64 d, .int .i64 f, .slice pk (makeActL (j + 1) l).keep.length ck] := by unfold actCells; rw [HMKK.out, H5.out]; rfl
        rw [hac]
        go_wp2_with (refine wpList_unit (o := ⟨none, Op.store 24 (.tmp 2) _, _, _, _, _⟩) rfl rfl (Instr.storeAt 24 _ _) rfl (blk_store (c' := #[.int .i64 ((j + 1 : Nat) : Int), .int .i64 a, .int .i64 b, .int .i64 cc, .int .i64 d, .int .i64 f, .slice pk (makeActL (j + 1) l).keep.length ck]) B5 size24 rfl rfl) ?_)
        have hB7 := setRow_heap w5 w.heap.size _ #[.int .i64 ((j + 1 : Nat) : Int), .int .i64 a, .int .i64 b, .int .i64 cc, .int .i64 d, .int .i64 f, .slice pk (makeActL (j + 1) l).keep.length ck] 24 B5
        have hs7 := setRow_stays w5 w.heap.size #[.int .i64 ((j + 1 : Nat) : Int), .int .i64 a, .int .i64 b, .int .i64 cc, .int .i64 d, .int .i64 f, .slice pk (makeActL (j + 1) l).keep.length ck]
        have hl7 := l5.trans (hs7.below l5.size (fun j hj e => by omega))
        obtain ⟨w7, hw7⟩ : ∃ w7, w7 = w5.setRow w.heap.size #[.int .i64 ((j + 1 : Nat) : Int), .int .i64 a, .int .i64 b, .int .i64 cc, .int .i64 d, .int .i64 f, .slice pk (makeActL (j + 1) l).keep.length ck] := ⟨_, rfl⟩
        rw [← hw7] at hB7 hl7 hs7
        rw [← hw7]
        obtain ⟨y0, y1, y2, y3, y4, y5, y6⟩ := acts_cells hB7
        have hnr7 := nrow_stays hkn hs7 (fun L o c h h0 => by
          injection h with h _ _
          subst h
          have := (hkv.lt L rfl).1
          have := l4.size
          have := B4.lt
          intro e
          omega)
        unfold RetAE
        rw [HR.out]
        refine ⟨rfl, .tuple #[actV ((j + 1 : Nat) : Int) a b cc d f (.slice pk (makeActL (j + 1) l).keep.length ck), .int .i64 0], ?_, hl7, a, b, cc, d, f, pk, (makeActL (j + 1) l).keep.length, ck, by rw [HMKK.out], H5.out, hnr7⟩
        simp [results, Tryz.results21, go_sem, y0, y1, y2, y3, y4, y5, y6]
end Go.Proofs.YtddnmocoaahlfaaGreatDoor
