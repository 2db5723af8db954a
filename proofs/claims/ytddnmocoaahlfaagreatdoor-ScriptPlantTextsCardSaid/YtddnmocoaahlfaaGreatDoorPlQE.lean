/-
  The reference's plantLine at the lines dry, vaults. Condition: lines of at most 65536 bytes.
-/
import Derived.Test.YtddnmocoaahlfaaGreatDoorY7
import Derived.Test.YtddnmocoaahlfaaGreatDoorZu
import Derived.BigRegion
set_option linter.unusedVariables false
set_option linter.unusedSimpArgs false

namespace Go.Proofs.YtddnmocoaahlfaaGreatDoor
open Go.RowKit Go.Shelf
set_option maxRecDepth 100000 in
set_option maxHeartbeats 8000000 in
theorem plantLine_10 {w : World} {q : PV} {bv : Value} {ss : List ByteArray} (hs : SRw w bv ss) {s : ByteArray} (hz : s.size ≤ 65536) : Calls Tryz.prog 75 #[.agg (q.cells bv), .int .i64 11, .string s] w (RetPL w bv ss (lineP 10 pDry (q.pl (ss.map txt)) (cutAt 32 (txt s)))) := by
  obtain ⟨ba, bc, rfl⟩ := hs.form
  obtain ⟨u, us, hcut⟩ := cut_cons 32 (txt s)
  have hcl := cut_len 32 (txt s)
  have hsz : (txt s).length = s.size := by simp
  rw [hcut] at hcl
  rw [hcut, lineP_cons]
  have hus : us.length ≤ 65536 := by have := hcl.2; simp at this; omega
  have hup : ∀ p ∈ us, p.length ≤ 65536 := fun p hp => by have := hcl.1 p (by simp [hp]); omega
  obtain ⟨res, hres⟩ : ∃ res, res = if u = pDry then readLine 10 (q.pl (ss.map txt)) us else none := ⟨_, rfl⟩
  rw [← hres]
  obtain ⟨w2, hw2⟩ : ∃ w2, w2 = (w.alloc (.cells (q.cells (.slice ba ss.length bc)) 35)).alloc (.cells #[.string ⟨#[]⟩, .int .i64 0, .slice none 0 0, .bool false, .int .i64 0, .int .i64 0, .int .i64 0, .int .i64 0, .bool false, .int .i64 0, .int .i64 0, .int .i64 0, .int .i64 0, .int .i64 0, .int .i64 0, .int .i64 0, .int .i64 0, .int .i64 0, .int .i64 0] 35) := ⟨_, rfl⟩
  have l2 : Below w.heap.size w w2 := by rw [hw2]; exact ((Below.refl _ w).alloc (Nat.le_refl _) _).alloc (by simp) _
  have P2 : Blk w2 w.heap.size (q.cells (.slice ba ss.length bc)) 35 := by rw [hw2]; exact (Blk.new w _ _).alloc _
  have R2 : Blk w2 (w.heap.size + 1) (PV.zero.cells (.slice none 0 0)) 35 := by rw [hw2]; exact Blk.newAt (by simp) _ _
  have z2 : w2.heap.size = w.heap.size + 1 + 1 := by rw [hw2]; simp
  obtain ⟨w4, hw4⟩ : ∃ w4, w4 = (w2.alloc (.cells pWords 189)).alloc (.cells pCounts 190) := ⟨_, rfl⟩
  have b24 : Below w2.heap.size w2 w4 := by rw [hw4]; exact ((Below.refl _ w2).alloc (Nat.le_refl _) _).alloc (by simp) _
  have W4 : Blk w4 w2.heap.size pWords 189 := by rw [hw4]; exact (Blk.new w2 _ _).alloc _
  have C4 : Blk w4 (w2.heap.size + 1) pCounts 190 := by rw [hw4]; exact Blk.newAt (by simp) _ _
  have l4 := l2.trans (b24.mono l2.size)
  have P4 := P2.below b24
  have R4 := R2.below b24
  have hR2 : w.heap.size + 1 < w2.heap.size := by omega
  have h24 : w2.heap.size + 1 < w4.heap.size := C4.lt
  have hp := partsR_any (w := w4) s 32 (by omega)
  rw [hcut] at hp
  have HP := Lib.hid hp
  have HW2 := Lib.hid hw2
  have HW4 := Lib.hid hw4
  have HRES := Lib.hid hres
  have HUS := Lib.hid hus
  have HUP := Lib.hid hup
  have HS := Lib.hid hs
  clear hp hw2 hw4 hres hcl hsz hcut hus hup hs P2 R2 z2 l2 b24
  go_enter Tryz.func75, Tryz.ntmps75
  go_upto_region 1 with fail
  rw [← HW2.out]
  go_upto_region 3 with (first | (refine wpList_val (o := ⟨some 15, _, _, _, _, _⟩) rfl (Instr.build 189 _) rfl _ (pWords_build _) ?_) | (refine wpList_val (o := ⟨some 8, _, _, _, _, _⟩) rfl (Instr.alloc 189 true (.tuple #[])) rfl _ (pWords_alloc _) ?_) | (refine wpList_unit (o := ⟨none, Op.store 189 _ _, _, _, _, _⟩) rfl rfl (Instr.storeAt 189 _ _) rfl (pWords_store _) ?_) | (refine wpList_val (o := ⟨some 16, _, _, _, _, _⟩) rfl (Instr.build 190 _) rfl _ (pCounts_build _) ?_) | (refine wpList_val (o := ⟨some 9, _, _, _, _, _⟩) rfl (Instr.alloc 190 true (.tuple #[])) rfl _ (pCounts_alloc _) ?_) | (refine wpList_unit (o := ⟨none, Op.store 190 _ _, _, _, _, _⟩) rfl rfl (Instr.storeAt 190 _ _) rfl (pCounts_store _) ?_) | fail)
  rw [← HW4.out]
  go_wp2_with fail
  refine HP.out.mono ?_
  rintro e w5 ⟨b5, v, pss, rfl, hown, htx⟩
  have l5 := l4.trans (b5.mono l4.size)
  have P5 := P4.below b5
  have R5 := R4.below b5
  have W5 := W4.below b5
  have h45a := b5.size
  have C5 := C4.below b5
  obtain ⟨s0, st, rfl⟩ : ∃ s0 st, pss = s0 :: st := by
    cases pss with
    | nil => cases htx
    | cons a b => exact ⟨a, b, rfl⟩
  simp only [List.map_cons, List.cons.injEq] at htx
  obtain ⟨hu, hst⟩ := htx
  have hsr := (srow_of hown).rw
  have hlow : ∀ L o m c, v = .slice (some ⟨L, o, none⟩) m c → w4.heap.size ≤ L := fun L o m c e => by
    rcases hown.2 with ⟨h, _⟩ | ⟨g, cap, cur, h, hb, _⟩
    · rw [h] at e; cases e
    · rw [h] at e; injection e with e _ _; injection e with e; injection e with e _ _; omega
  obtain ⟨g, o, c, rfl, hc, hc0, A, hsl, htail⟩ := srw_tail hsr
  have hg4 := hlow g o _ _ rfl
  have hstl : st.length ≤ 65536 := by
    have : st.length = us.length := by rw [← hst]; simp
    have := HUS.out
    omega
  have hstz : ∀ x ∈ st, x.size ≤ 65536 := fun x hx => by
    have := HUP.out (txt x) (by rw [← hst]; exact List.mem_map.2 ⟨x, hx, rfl⟩)
    simp at this
    omega
  obtain ⟨wd, hwd⟩ : ∃ wd : ByteArray, wd = ⟨#[100, 114, 121]⟩ := ⟨_, rfl⟩
  have yw : w5.cell? ⟨w2.heap.size, 11, none⟩ = some (.string wd) := by rw [hwd]; exact (W5.cell 11).trans rfl
  have yc : w5.cell? ⟨w2.heap.size + 1, 11, none⟩ = some (.int .i64 1) := (C5.cell 11).trans rfl
  have htw : txt wd = pDry := by rw [hwd]; rfl
  have du : (s0.toList == wd.toList) = decide (u = pDry) := by
    rw [ByteArray.toList_eq, ByteArray.toList_eq, ← hu, ← htw]
    by_cases h : txt s0 = txt wd
    · rw [decide_eq_true h]; exact beq_iff_eq.2 h
    · rw [decide_eq_false h]; exact beq_eq_false_iff_ne.2 h
  have HSL := Lib.hid hsl
  have HU := Lib.hid hu
  have HST := Lib.hid hst
  have HSZ := Lib.hid hstz
  have HTL := Lib.hid htail
  have HSR := Lib.hid hsr
  have HW := Lib.hid W5
  clear hown hsr htail hsl hst hstz hwd W4 C4 W5 HP htw hlow P4 R4 l4 b5 hu
  have hkz : (q.cells (.slice ba ss.length bc)).size = 19 := rfl
  have hko : (q.cells (.slice ba ss.length bc)).toList.all (·.oneCell') = true := rfl
  have HKO := Lib.hid hko
  clear hko hkz
  by_cases hc1 : u = pDry
  rotate_left
  · rw [decide_eq_false hc1] at du
    have hr : res = none := by rw [HRES.out, if_neg hc1]
    subst hr
    clear hc1
    go_upto_region 4 with fail
    go_quiet (fail)
    obtain ⟨w6, hw6⟩ : ∃ w6, w6 = w5.drewN nq := ⟨_, rfl⟩
    rw [← hw6]
    have b6 : Below w5.heap.size w5 w6 := by rw [hw6]; exact drewN_below _ _
    have l6 := l5.trans (b6.mono l5.size)
    have P6 := P5.below b6
    have R6 := R5.below b6
    clear hw6
    go_wp2_with (first | (refine wpList_val (o := ⟨some 26, Op.load 35 _, _, _, _, _⟩) rfl (Instr.loadAt 35 _) rfl _ (pl_load P6 rfl) ?_) | (refine wpList_unit (o := ⟨none, Op.store 35 (.tmp 6) _, _, _, _, _⟩) rfl rfl (Instr.storeAt 35 _ _) rfl (blk_store (c' := q.cells (.slice ba ss.length bc)) R6 size35' rfl rfl) ?_) | fail)
    exact ⟨rfl, .tuple #[.agg (q.cells (.slice ba ss.length bc)), .bool false], results75_any (setRow_heap _ _ _ (q.cells (.slice ba ss.length bc)) 35 R6) rfl rfl rfl, pl_fin (res := none) l6 (by omega) R6 rfl HKO.out rfl⟩
  rw [decide_eq_true hc1] at du
  have hr1 : res = readLine 10 (q.pl (ss.map txt)) us := by rw [HRES.out, if_pos hc1]
  have HR := Lib.hid hr1
  clear hc1 hr1 HRES
  go_upto_region 4 with fail
  go_quiet (fail)
  obtain ⟨w6, hw6⟩ : ∃ w6, w6 = w5.drewN nq := ⟨_, rfl⟩
  rw [← hw6]
  have b6 : Below w5.heap.size w5 w6 := by rw [hw6]; exact drewN_below _ _
  have l6 := l5.trans (b6.mono l5.size)
  have P6 := P5.below b6
  have R6 := R5.below b6
  have yc6 := cell_below yc b6
  have T6 := HTL.out.below b6
  have S6 := HSR.out.below b6
  have h56 := b6.size
  have h45 : w4.heap.size ≤ w6.heap.size := by omega
  clear hw6 yw yc P5 R5 b6 l5 du C5
  have HN := numbersR_any T6 (by omega)
  rw [HST.out] at HN
  have HNN := Lib.hid HN
  clear HN T6 S6
  go_wp2_with (refine wpList_val (o := ⟨some 65, _, _, _, _, _⟩) rfl (Instr.sliceAt 27 _ _ _ _) rfl _ (HSL.out _) ?_)
  refine HNN.out.mono ?_
  rintro e w7 ⟨b7, h7⟩
  have l7 := l6.trans (b7.mono l6.size)
  have P7 := P6.below b7
  have R7 := R6.below b7
  have yc7 := cell_below yc6 b7
  have h67 := b7.size
  clear P6 R6 yc6 l6 HNN b7
  cases hun : undecAllL us with
  | none =>
    rw [hun] at h7
    have hr : res = none := by rw [HR.out]; unfold readLine oneL; simp [hun]
    subst h7
    subst hr
    clear hun HR
    go_wp2_with (first | (refine wpList_val (o := ⟨some 79, Op.load 35 _, _, _, _, _⟩) rfl (Instr.loadAt 35 _) rfl _ (pl_load P7 rfl) ?_) | (refine wpList_unit (o := ⟨none, Op.store 35 (.tmp 6) _, _, _, _, _⟩) rfl rfl (Instr.storeAt 35 _ _) rfl (blk_store (c' := q.cells (.slice ba ss.length bc)) R7 size35' rfl rfl) ?_) | fail)
    exact ⟨rfl, .tuple #[.agg (q.cells (.slice ba ss.length bc)), .bool false], results75_any (setRow_heap _ _ _ (q.cells (.slice ba ss.length bc)) 35 R7) rfl rfl rfl, pl_fin (res := none) l7 (by omega) R7 rfl HKO.out rfl⟩
  | some l =>
    rw [hun] at h7
    obtain ⟨v', rfl, hrow⟩ := h7
    obtain ⟨pv, cv, rfl⟩ := (nrow_of hrow).form
    have hll : l.length ≤ 131072 := by
      have h3 := congrArg List.length (undecAll_iff.1 hun).2
      rw [List.length_map] at h3
      have := HUS.out
      omega
    by_cases hl1 : l.length = 1
    rotate_left
    · have hr : res = none := by
        rw [HR.out]
        have ho : oneL us = none := one_none hun hl1
        unfold readLine; simp [ho]
      have d3 : ((l.length : Int) != 1) = true := by simp; omega
      subst hr
      clear hun HR hl1
      go_wp2_with (first | (refine wpList_val (o := ⟨some 79, Op.load 35 _, _, _, _, _⟩) rfl (Instr.loadAt 35 _) rfl _ (pl_load P7 rfl) ?_) | (refine wpList_unit (o := ⟨none, Op.store 35 (.tmp 6) _, _, _, _, _⟩) rfl rfl (Instr.storeAt 35 _ _) rfl (blk_store (c' := q.cells (.slice ba ss.length bc)) R7 size35' rfl rfl) ?_) | fail)
      exact ⟨rfl, .tuple #[.agg (q.cells (.slice ba ss.length bc)), .bool false], results75_any (setRow_heap _ _ _ (q.cells (.slice ba ss.length bc)) 35 R7) rfl rfl rfl, pl_fin (res := none) l7 (by omega) R7 rfl HKO.out rfl⟩
    · obtain ⟨m0, rfl⟩ : ∃ m0, l = [m0] := by
        match l, hl1 with
        | [m0], _ => exact ⟨m0, rfl⟩
      have hnr := nrow_of hrow
      obtain ⟨L, oo, rfl, _⟩ := nrow_get hnr (i := 0) (by simp)
      have n0 : w7.cell? ⟨L, oo, none⟩ = some (.int .i64 m0) := by
        obtain ⟨L', o', e', h⟩ := nrow_get hnr (i := 0) (by simp)
        cases e'
        exact h
      have hln : ([m0] : List Int).length = 1 := rfl
      have hcap : 1 ≤ cv := by
        rcases nrow_cap hnr with h | h
        · cases h
        · exact h
      rw [hln]
      have hrs : res = some { q.pl (ss.map txt) with dry := m0 } := by rw [HR.out]; unfold readLine oneL; simp [hun]
      have cc : w7.cell? ⟨w.heap.size, 16, none⟩ = some (.int .i64 q.dry) := (P7.cell 16).trans rfl
      have ff := P7.frozen 16
      obtain ⟨w8, hw8⟩ : ∃ w8, w8 = w7.setCell ⟨w.heap.size, 16, none⟩ (.int .i64 m0) := ⟨_, rfl⟩
      have s8 : Stays (fun k => k = w.heap.size) w7 w8 := by rw [hw8]; exact Stays.cell (.refl _ w7) 16 _
      have P8 : Blk w8 w.heap.size (({ q with dry := m0 } : PV).cells (.slice ba ss.length bc)) 35 := by rw [hw8]; exact P7.set 16 (.int .i64 m0)
      have b8 : Below w.heap.size w7 w8 := s8.below l7.size (fun j hj e => by have e' : j = w.heap.size := e; omega)
      have l8 := l7.trans b8
      have R8 : Blk w8 (w.heap.size + 1) (PV.zero.cells (.slice none 0 0)) 35 := R7.stays s8 (by omega)
      have K8 : PLk w8 w.heap.size (w.heap.size + 1) (.slice ba ss.length bc) ss (({ q with dry := m0 } : PV).cells (.slice ba ss.length bc)) true res := by
        rw [hrs]
        exact ⟨rfl, ({ q with dry := m0 } : PV), .slice ba ss.length bc, ss, rfl, HS.out.below l8, rfl, fun L o m' c e h0 => by have := srw_low HS.out e h0; omega, .inl ⟨rfl, rfl⟩⟩
      have HK8 := Lib.hid K8
      have HRS := Lib.hid hrs
      have HW8 := Lib.hid hw8
      clear K8 hw8 hrs HR hun hrow hnr hl1 s8 b8 R7
      go_upto_region 45 with fail
      rw [← HW8.out]
      go_wp2_with (first | (refine wpList_val (o := ⟨some 155, Op.load 35 _, _, _, _, _⟩) rfl (Instr.loadAt 35 _) rfl _ (pl_load P8 rfl) ?_) | (refine wpList_unit (o := ⟨none, Op.store 35 (.tmp 6) _, _, _, _, _⟩) rfl rfl (Instr.storeAt 35 _ _) rfl (blk_store (c' := ({ q with dry := m0 } : PV).cells (.slice ba ss.length bc)) R8 size35' rfl rfl) ?_) | fail)
      exact ⟨rfl, .tuple #[.agg (({ q with dry := m0 } : PV).cells (.slice ba ss.length bc)), .bool true], results75_any (setRow_heap _ _ _ (({ q with dry := m0 } : PV).cells (.slice ba ss.length bc)) 35 R8) rfl rfl rfl, pl_fin l8 (by omega) R8 rfl rfl HK8.out⟩
set_option maxRecDepth 100000 in
set_option maxHeartbeats 8000000 in
theorem plantLine_11 {w : World} {q : PV} {bv : Value} {ss : List ByteArray} (hs : SRw w bv ss) {s : ByteArray} (hz : s.size ≤ 65536) : Calls Tryz.prog 75 #[.agg (q.cells bv), .int .i64 12, .string s] w (RetPL w bv ss (lineP 11 pVaults (q.pl (ss.map txt)) (cutAt 32 (txt s)))) := by
  obtain ⟨ba, bc, rfl⟩ := hs.form
  obtain ⟨u, us, hcut⟩ := cut_cons 32 (txt s)
  have hcl := cut_len 32 (txt s)
  have hsz : (txt s).length = s.size := by simp
  rw [hcut] at hcl
  rw [hcut, lineP_cons]
  have hus : us.length ≤ 65536 := by have := hcl.2; simp at this; omega
  have hup : ∀ p ∈ us, p.length ≤ 65536 := fun p hp => by have := hcl.1 p (by simp [hp]); omega
  obtain ⟨res, hres⟩ : ∃ res, res = if u = pVaults then readLine 11 (q.pl (ss.map txt)) us else none := ⟨_, rfl⟩
  rw [← hres]
  obtain ⟨w2, hw2⟩ : ∃ w2, w2 = (w.alloc (.cells (q.cells (.slice ba ss.length bc)) 35)).alloc (.cells #[.string ⟨#[]⟩, .int .i64 0, .slice none 0 0, .bool false, .int .i64 0, .int .i64 0, .int .i64 0, .int .i64 0, .bool false, .int .i64 0, .int .i64 0, .int .i64 0, .int .i64 0, .int .i64 0, .int .i64 0, .int .i64 0, .int .i64 0, .int .i64 0, .int .i64 0] 35) := ⟨_, rfl⟩
  have l2 : Below w.heap.size w w2 := by rw [hw2]; exact ((Below.refl _ w).alloc (Nat.le_refl _) _).alloc (by simp) _
  have P2 : Blk w2 w.heap.size (q.cells (.slice ba ss.length bc)) 35 := by rw [hw2]; exact (Blk.new w _ _).alloc _
  have R2 : Blk w2 (w.heap.size + 1) (PV.zero.cells (.slice none 0 0)) 35 := by rw [hw2]; exact Blk.newAt (by simp) _ _
  have z2 : w2.heap.size = w.heap.size + 1 + 1 := by rw [hw2]; simp
  obtain ⟨w4, hw4⟩ : ∃ w4, w4 = (w2.alloc (.cells pWords 189)).alloc (.cells pCounts 190) := ⟨_, rfl⟩
  have b24 : Below w2.heap.size w2 w4 := by rw [hw4]; exact ((Below.refl _ w2).alloc (Nat.le_refl _) _).alloc (by simp) _
  have W4 : Blk w4 w2.heap.size pWords 189 := by rw [hw4]; exact (Blk.new w2 _ _).alloc _
  have C4 : Blk w4 (w2.heap.size + 1) pCounts 190 := by rw [hw4]; exact Blk.newAt (by simp) _ _
  have l4 := l2.trans (b24.mono l2.size)
  have P4 := P2.below b24
  have R4 := R2.below b24
  have hR2 : w.heap.size + 1 < w2.heap.size := by omega
  have h24 : w2.heap.size + 1 < w4.heap.size := C4.lt
  have hp := partsR_any (w := w4) s 32 (by omega)
  rw [hcut] at hp
  have HP := Lib.hid hp
  have HW2 := Lib.hid hw2
  have HW4 := Lib.hid hw4
  have HRES := Lib.hid hres
  have HUS := Lib.hid hus
  have HUP := Lib.hid hup
  have HS := Lib.hid hs
  clear hp hw2 hw4 hres hcl hsz hcut hus hup hs P2 R2 z2 l2 b24
  go_enter Tryz.func75, Tryz.ntmps75
  go_upto_region 1 with fail
  rw [← HW2.out]
  go_upto_region 3 with (first | (refine wpList_val (o := ⟨some 15, _, _, _, _, _⟩) rfl (Instr.build 189 _) rfl _ (pWords_build _) ?_) | (refine wpList_val (o := ⟨some 8, _, _, _, _, _⟩) rfl (Instr.alloc 189 true (.tuple #[])) rfl _ (pWords_alloc _) ?_) | (refine wpList_unit (o := ⟨none, Op.store 189 _ _, _, _, _, _⟩) rfl rfl (Instr.storeAt 189 _ _) rfl (pWords_store _) ?_) | (refine wpList_val (o := ⟨some 16, _, _, _, _, _⟩) rfl (Instr.build 190 _) rfl _ (pCounts_build _) ?_) | (refine wpList_val (o := ⟨some 9, _, _, _, _, _⟩) rfl (Instr.alloc 190 true (.tuple #[])) rfl _ (pCounts_alloc _) ?_) | (refine wpList_unit (o := ⟨none, Op.store 190 _ _, _, _, _, _⟩) rfl rfl (Instr.storeAt 190 _ _) rfl (pCounts_store _) ?_) | fail)
  rw [← HW4.out]
  go_wp2_with fail
  refine HP.out.mono ?_
  rintro e w5 ⟨b5, v, pss, rfl, hown, htx⟩
  have l5 := l4.trans (b5.mono l4.size)
  have P5 := P4.below b5
  have R5 := R4.below b5
  have W5 := W4.below b5
  have h45a := b5.size
  have C5 := C4.below b5
  obtain ⟨s0, st, rfl⟩ : ∃ s0 st, pss = s0 :: st := by
    cases pss with
    | nil => cases htx
    | cons a b => exact ⟨a, b, rfl⟩
  simp only [List.map_cons, List.cons.injEq] at htx
  obtain ⟨hu, hst⟩ := htx
  have hsr := (srow_of hown).rw
  have hlow : ∀ L o m c, v = .slice (some ⟨L, o, none⟩) m c → w4.heap.size ≤ L := fun L o m c e => by
    rcases hown.2 with ⟨h, _⟩ | ⟨g, cap, cur, h, hb, _⟩
    · rw [h] at e; cases e
    · rw [h] at e; injection e with e _ _; injection e with e; injection e with e _ _; omega
  obtain ⟨g, o, c, rfl, hc, hc0, A, hsl, htail⟩ := srw_tail hsr
  have hg4 := hlow g o _ _ rfl
  have hstl : st.length ≤ 65536 := by
    have : st.length = us.length := by rw [← hst]; simp
    have := HUS.out
    omega
  have hstz : ∀ x ∈ st, x.size ≤ 65536 := fun x hx => by
    have := HUP.out (txt x) (by rw [← hst]; exact List.mem_map.2 ⟨x, hx, rfl⟩)
    simp at this
    omega
  obtain ⟨wd, hwd⟩ : ∃ wd : ByteArray, wd = ⟨#[118, 97, 117, 108, 116, 115]⟩ := ⟨_, rfl⟩
  have yw : w5.cell? ⟨w2.heap.size, 12, none⟩ = some (.string wd) := by rw [hwd]; exact (W5.cell 12).trans rfl
  have yc : w5.cell? ⟨w2.heap.size + 1, 12, none⟩ = some (.int .i64 1) := (C5.cell 12).trans rfl
  have htw : txt wd = pVaults := by rw [hwd]; rfl
  have du : (s0.toList == wd.toList) = decide (u = pVaults) := by
    rw [ByteArray.toList_eq, ByteArray.toList_eq, ← hu, ← htw]
    by_cases h : txt s0 = txt wd
    · rw [decide_eq_true h]; exact beq_iff_eq.2 h
    · rw [decide_eq_false h]; exact beq_eq_false_iff_ne.2 h
  have HSL := Lib.hid hsl
  have HU := Lib.hid hu
  have HST := Lib.hid hst
  have HSZ := Lib.hid hstz
  have HTL := Lib.hid htail
  have HSR := Lib.hid hsr
  have HW := Lib.hid W5
  clear hown hsr htail hsl hst hstz hwd W4 C4 W5 HP htw hlow P4 R4 l4 b5 hu
  have hkz : (q.cells (.slice ba ss.length bc)).size = 19 := rfl
  have hko : (q.cells (.slice ba ss.length bc)).toList.all (·.oneCell') = true := rfl
  have HKO := Lib.hid hko
  clear hko hkz
  by_cases hc1 : u = pVaults
  rotate_left
  · rw [decide_eq_false hc1] at du
    have hr : res = none := by rw [HRES.out, if_neg hc1]
    subst hr
    clear hc1
    go_upto_region 4 with fail
    go_quiet (fail)
    obtain ⟨w6, hw6⟩ : ∃ w6, w6 = w5.drewN nq := ⟨_, rfl⟩
    rw [← hw6]
    have b6 : Below w5.heap.size w5 w6 := by rw [hw6]; exact drewN_below _ _
    have l6 := l5.trans (b6.mono l5.size)
    have P6 := P5.below b6
    have R6 := R5.below b6
    clear hw6
    go_wp2_with (first | (refine wpList_val (o := ⟨some 26, Op.load 35 _, _, _, _, _⟩) rfl (Instr.loadAt 35 _) rfl _ (pl_load P6 rfl) ?_) | (refine wpList_unit (o := ⟨none, Op.store 35 (.tmp 6) _, _, _, _, _⟩) rfl rfl (Instr.storeAt 35 _ _) rfl (blk_store (c' := q.cells (.slice ba ss.length bc)) R6 size35' rfl rfl) ?_) | fail)
    exact ⟨rfl, .tuple #[.agg (q.cells (.slice ba ss.length bc)), .bool false], results75_any (setRow_heap _ _ _ (q.cells (.slice ba ss.length bc)) 35 R6) rfl rfl rfl, pl_fin (res := none) l6 (by omega) R6 rfl HKO.out rfl⟩
  rw [decide_eq_true hc1] at du
  have hr1 : res = readLine 11 (q.pl (ss.map txt)) us := by rw [HRES.out, if_pos hc1]
  have HR := Lib.hid hr1
  clear hc1 hr1 HRES
  go_upto_region 4 with fail
  go_quiet (fail)
  obtain ⟨w6, hw6⟩ : ∃ w6, w6 = w5.drewN nq := ⟨_, rfl⟩
  rw [← hw6]
  have b6 : Below w5.heap.size w5 w6 := by rw [hw6]; exact drewN_below _ _
  have l6 := l5.trans (b6.mono l5.size)
  have P6 := P5.below b6
  have R6 := R5.below b6
  have yc6 := cell_below yc b6
  have T6 := HTL.out.below b6
  have S6 := HSR.out.below b6
  have h56 := b6.size
  have h45 : w4.heap.size ≤ w6.heap.size := by omega
  clear hw6 yw yc P5 R5 b6 l5 du C5
  have HN := numbersR_any T6 (by omega)
  rw [HST.out] at HN
  have HNN := Lib.hid HN
  clear HN T6 S6
  go_wp2_with (refine wpList_val (o := ⟨some 65, _, _, _, _, _⟩) rfl (Instr.sliceAt 27 _ _ _ _) rfl _ (HSL.out _) ?_)
  refine HNN.out.mono ?_
  rintro e w7 ⟨b7, h7⟩
  have l7 := l6.trans (b7.mono l6.size)
  have P7 := P6.below b7
  have R7 := R6.below b7
  have yc7 := cell_below yc6 b7
  have h67 := b7.size
  clear P6 R6 yc6 l6 HNN b7
  cases hun : undecAllL us with
  | none =>
    rw [hun] at h7
    have hr : res = none := by rw [HR.out]; unfold readLine oneL; simp [hun]
    subst h7
    subst hr
    clear hun HR
    go_wp2_with (first | (refine wpList_val (o := ⟨some 79, Op.load 35 _, _, _, _, _⟩) rfl (Instr.loadAt 35 _) rfl _ (pl_load P7 rfl) ?_) | (refine wpList_unit (o := ⟨none, Op.store 35 (.tmp 6) _, _, _, _, _⟩) rfl rfl (Instr.storeAt 35 _ _) rfl (blk_store (c' := q.cells (.slice ba ss.length bc)) R7 size35' rfl rfl) ?_) | fail)
    exact ⟨rfl, .tuple #[.agg (q.cells (.slice ba ss.length bc)), .bool false], results75_any (setRow_heap _ _ _ (q.cells (.slice ba ss.length bc)) 35 R7) rfl rfl rfl, pl_fin (res := none) l7 (by omega) R7 rfl HKO.out rfl⟩
  | some l =>
    rw [hun] at h7
    obtain ⟨v', rfl, hrow⟩ := h7
    obtain ⟨pv, cv, rfl⟩ := (nrow_of hrow).form
    have hll : l.length ≤ 131072 := by
      have h3 := congrArg List.length (undecAll_iff.1 hun).2
      rw [List.length_map] at h3
      have := HUS.out
      omega
    by_cases hl1 : l.length = 1
    rotate_left
    · have hr : res = none := by
        rw [HR.out]
        have ho : oneL us = none := one_none hun hl1
        unfold readLine; simp [ho]
      have d3 : ((l.length : Int) != 1) = true := by simp; omega
      subst hr
      clear hun HR hl1
      go_wp2_with (first | (refine wpList_val (o := ⟨some 79, Op.load 35 _, _, _, _, _⟩) rfl (Instr.loadAt 35 _) rfl _ (pl_load P7 rfl) ?_) | (refine wpList_unit (o := ⟨none, Op.store 35 (.tmp 6) _, _, _, _, _⟩) rfl rfl (Instr.storeAt 35 _ _) rfl (blk_store (c' := q.cells (.slice ba ss.length bc)) R7 size35' rfl rfl) ?_) | fail)
      exact ⟨rfl, .tuple #[.agg (q.cells (.slice ba ss.length bc)), .bool false], results75_any (setRow_heap _ _ _ (q.cells (.slice ba ss.length bc)) 35 R7) rfl rfl rfl, pl_fin (res := none) l7 (by omega) R7 rfl HKO.out rfl⟩
    · obtain ⟨m0, rfl⟩ : ∃ m0, l = [m0] := by
        match l, hl1 with
        | [m0], _ => exact ⟨m0, rfl⟩
      have hnr := nrow_of hrow
      obtain ⟨L, oo, rfl, _⟩ := nrow_get hnr (i := 0) (by simp)
      have n0 : w7.cell? ⟨L, oo, none⟩ = some (.int .i64 m0) := by
        obtain ⟨L', o', e', h⟩ := nrow_get hnr (i := 0) (by simp)
        cases e'
        exact h
      have hln : ([m0] : List Int).length = 1 := rfl
      have hcap : 1 ≤ cv := by
        rcases nrow_cap hnr with h | h
        · cases h
        · exact h
      rw [hln]
      have hrs : res = some { q.pl (ss.map txt) with vaults := m0 } := by rw [HR.out]; unfold readLine oneL; simp [hun]
      have cc : w7.cell? ⟨w.heap.size, 17, none⟩ = some (.int .i64 q.vaults) := (P7.cell 17).trans rfl
      have ff := P7.frozen 17
      obtain ⟨w8, hw8⟩ : ∃ w8, w8 = w7.setCell ⟨w.heap.size, 17, none⟩ (.int .i64 m0) := ⟨_, rfl⟩
      have s8 : Stays (fun k => k = w.heap.size) w7 w8 := by rw [hw8]; exact Stays.cell (.refl _ w7) 17 _
      have P8 : Blk w8 w.heap.size (({ q with vaults := m0 } : PV).cells (.slice ba ss.length bc)) 35 := by rw [hw8]; exact P7.set 17 (.int .i64 m0)
      have b8 : Below w.heap.size w7 w8 := s8.below l7.size (fun j hj e => by have e' : j = w.heap.size := e; omega)
      have l8 := l7.trans b8
      have R8 : Blk w8 (w.heap.size + 1) (PV.zero.cells (.slice none 0 0)) 35 := R7.stays s8 (by omega)
      have K8 : PLk w8 w.heap.size (w.heap.size + 1) (.slice ba ss.length bc) ss (({ q with vaults := m0 } : PV).cells (.slice ba ss.length bc)) true res := by
        rw [hrs]
        exact ⟨rfl, ({ q with vaults := m0 } : PV), .slice ba ss.length bc, ss, rfl, HS.out.below l8, rfl, fun L o m' c e h0 => by have := srw_low HS.out e h0; omega, .inl ⟨rfl, rfl⟩⟩
      have HK8 := Lib.hid K8
      have HRS := Lib.hid hrs
      have HW8 := Lib.hid hw8
      clear K8 hw8 hrs HR hun hrow hnr hl1 s8 b8 R7
      go_upto_region 45 with fail
      rw [← HW8.out]
      go_wp2_with (first | (refine wpList_val (o := ⟨some 155, Op.load 35 _, _, _, _, _⟩) rfl (Instr.loadAt 35 _) rfl _ (pl_load P8 rfl) ?_) | (refine wpList_unit (o := ⟨none, Op.store 35 (.tmp 6) _, _, _, _, _⟩) rfl rfl (Instr.storeAt 35 _ _) rfl (blk_store (c' := ({ q with vaults := m0 } : PV).cells (.slice ba ss.length bc)) R8 size35' rfl rfl) ?_) | fail)
      exact ⟨rfl, .tuple #[.agg (({ q with vaults := m0 } : PV).cells (.slice ba ss.length bc)), .bool true], results75_any (setRow_heap _ _ _ (({ q with vaults := m0 } : PV).cells (.slice ba ss.length bc)) 35 R8) rfl rfl rfl, pl_fin l8 (by omega) R8 rfl rfl HK8.out⟩
end Go.Proofs.YtddnmocoaahlfaaGreatDoor
