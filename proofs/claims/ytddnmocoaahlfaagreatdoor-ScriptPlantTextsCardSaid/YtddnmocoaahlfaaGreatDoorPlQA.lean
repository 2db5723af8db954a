/-
  The reference's plantLine at the lines alphabet, banned. Condition: lines of at most 65536 bytes.
-/
import Derived.Test.YtddnmocoaahlfaaGreatDoorY7
import Derived.Test.YtddnmocoaahlfaaGreatDoorZu
import Derived.BigRegion
set_option linter.unusedVariables false
set_option linter.unusedSimpArgs false

namespace Go.Proofs.YtddnmocoaahlfaaGreatDoor
open Go.RowKit Go.Shelf
theorem read_bad0 {p : Pl} {us : List (List UInt8)} {x : List UInt8} (hx : x ∈ us) (ht : isTokL x = false) : readLine 0 p us = none := by
  cases h : readLine 0 p us with
  | none => rfl
  | some q =>
    unfold readLine at h
    rw [if_pos rfl] at h
    split at h
    · obtain ⟨h1, _⟩ := if_some h
      rw [List.mem_singleton.1 hx, h1] at ht
      cases ht
    · cases h
theorem read_many {p : Pl} {us : List (List UInt8)} (h1 : us.length ≠ 1) : readLine 0 p us = none := by
  match us, h1 with
  | [], _ => rfl
  | [_], h => exact absurd rfl h
  | _ :: _ :: _, _ => rfl
theorem read_bad2 {p : Pl} {us : List (List UInt8)} {x : List UInt8} (hx : x ∈ us) (ht : isTokL x = false) : readLine 2 p us = none := by
  unfold readLine
  rw [if_neg (by decide), if_neg (by decide), if_pos rfl, if_neg]
  intro h
  rw [List.all_eq_true.1 h x hx] at ht
  cases ht
set_option maxRecDepth 100000 in
set_option maxHeartbeats 8000000 in
theorem plantLine_0 {w : World} {q : PV} {bv : Value} {ss : List ByteArray} (hs : SRw w bv ss) {s : ByteArray} (hz : s.size ≤ 65536) : Calls Tryz.prog 75 #[.agg (q.cells bv), .int .i64 1, .string s] w (RetPL w bv ss (lineP 0 pAlphabet (q.pl (ss.map txt)) (cutAt 32 (txt s)))) := by
  obtain ⟨ba, bc, rfl⟩ := hs.form
  obtain ⟨u, us, hcut⟩ := cut_cons 32 (txt s)
  have hcl := cut_len 32 (txt s)
  have hsz : (txt s).length = s.size := by simp
  rw [hcut] at hcl
  rw [hcut, lineP_cons]
  have hus : us.length ≤ 65536 := by have := hcl.2; simp at this; omega
  have hup : ∀ p ∈ us, p.length ≤ 65536 := fun p hp => by have := hcl.1 p (by simp [hp]); omega
  obtain ⟨res, hres⟩ : ∃ res, res = if u = pAlphabet then readLine 0 (q.pl (ss.map txt)) us else none := ⟨_, rfl⟩
  rw [← hres]
  obtain ⟨w2, hw2⟩ : ∃ w2, w2 = (w.alloc (.cells (q.cells (.slice ba ss.length bc)) 35)).alloc (.cells #[.string ⟨#[]⟩, .int .i64 0, .slice none 0 0, .bool false, .int .i64 0, .int .i64 0, .int .i64 0, .int .i64 0, .bool false, .int .i64 0, .int .i64 0, .int .i64 0, .int .i64 0, .int .i64 0, .int .i64 0, .int .i64 0, .int .i64 0, .int .i64 0, .int .i64 0] 35) := ⟨_, rfl⟩
  have l2 : Below w.heap.size w w2 := by rw [hw2]; exact ((Below.refl _ w).alloc (Nat.le_refl _) _).alloc (by simp) _
  have P2 : Blk w2 w.heap.size (q.cells (.slice ba ss.length bc)) 35 := by rw [hw2]; exact (Blk.new w _ _).alloc _
  have R2 : Blk w2 (w.heap.size + 1) (PV.zero.cells (.slice none 0 0)) 35 := by rw [hw2]; exact Blk.newAt (by simp) _ _
  have z2 : w2.heap.size = w.heap.size + 1 + 1 := by rw [hw2]; simp
  obtain ⟨w4, hw4⟩ : ∃ w4, w4 = (w2.alloc (.cells pWords 189)).alloc (.cells pCounts 190) := ⟨_, rfl⟩
  have b24 : Below w2.heap.size w2 w4 := by rw [hw4]; exact ((Below.refl _ w2).alloc (Nat.le_refl _) _).alloc (by simp) _
  have W4 : Blk w4 w2.heap.size pWords 189 := by rw [hw4]; exact (Blk.new w2 _ _).alloc _
  have C4 : Blk w4 (w2.heap.size + 1) pCounts 190 := by rw [hw4]; exact Blk.newAt (by simp) _ _
  have l4 := l2.trans (b24.mono l2.size)
  have P4 := P2.below b24
  have R4 := R2.below b24
  have hR2 : w.heap.size + 1 < w2.heap.size := by omega
  have h24 : w2.heap.size + 1 < w4.heap.size := C4.lt
  have hp := partsR_any (w := w4) s 32 (by omega)
  rw [hcut] at hp
  have HP := Lib.hid hp
  have HW2 := Lib.hid hw2
  have HW4 := Lib.hid hw4
  have HRES := Lib.hid hres
  have HUS := Lib.hid hus
  have HUP := Lib.hid hup
  have HS := Lib.hid hs
  clear hp hw2 hw4 hres hcl hsz hcut hus hup hs P2 R2 z2 l2 b24
  go_enter Tryz.func75, Tryz.ntmps75
  go_upto_region 1 with fail
  rw [← HW2.out]
  go_upto_region 3 with (first | (refine wpList_val (o := ⟨some 15, _, _, _, _, _⟩) rfl (Instr.build 189 _) rfl _ (pWords_build _) ?_) | (refine wpList_val (o := ⟨some 8, _, _, _, _, _⟩) rfl (Instr.alloc 189 true (.tuple #[])) rfl _ (pWords_alloc _) ?_) | (refine wpList_unit (o := ⟨none, Op.store 189 _ _, _, _, _, _⟩) rfl rfl (Instr.storeAt 189 _ _) rfl (pWords_store _) ?_) | (refine wpList_val (o := ⟨some 16, _, _, _, _, _⟩) rfl (Instr.build 190 _) rfl _ (pCounts_build _) ?_) | (refine wpList_val (o := ⟨some 9, _, _, _, _, _⟩) rfl (Instr.alloc 190 true (.tuple #[])) rfl _ (pCounts_alloc _) ?_) | (refine wpList_unit (o := ⟨none, Op.store 190 _ _, _, _, _, _⟩) rfl rfl (Instr.storeAt 190 _ _) rfl (pCounts_store _) ?_) | fail)
  rw [← HW4.out]
  go_wp2_with fail
  refine HP.out.mono ?_
  rintro e w5 ⟨b5, v, pss, rfl, hown, htx⟩
  have l5 := l4.trans (b5.mono l4.size)
  have P5 := P4.below b5
  have R5 := R4.below b5
  have W5 := W4.below b5
  have h45a := b5.size
  have C5 := C4.below b5
  obtain ⟨s0, st, rfl⟩ : ∃ s0 st, pss = s0 :: st := by
    cases pss with
    | nil => cases htx
    | cons a b => exact ⟨a, b, rfl⟩
  simp only [List.map_cons, List.cons.injEq] at htx
  obtain ⟨hu, hst⟩ := htx
  have hsr := (srow_of hown).rw
  have hlow : ∀ L o m c, v = .slice (some ⟨L, o, none⟩) m c → w4.heap.size ≤ L := fun L o m c e => by
    rcases hown.2 with ⟨h, _⟩ | ⟨g, cap, cur, h, hb, _⟩
    · rw [h] at e; cases e
    · rw [h] at e; injection e with e _ _; injection e with e; injection e with e _ _; omega
  obtain ⟨g, o, c, rfl, hc, hc0, A, hsl, htail⟩ := srw_tail hsr
  have hg4 := hlow g o _ _ rfl
  have hstl : st.length ≤ 65536 := by
    have : st.length = us.length := by rw [← hst]; simp
    have := HUS.out
    omega
  have hstz : ∀ x ∈ st, x.size ≤ 65536 := fun x hx => by
    have := HUP.out (txt x) (by rw [← hst]; exact List.mem_map.2 ⟨x, hx, rfl⟩)
    simp at this
    omega
  obtain ⟨wd, hwd⟩ : ∃ wd : ByteArray, wd = ⟨#[97, 108, 112, 104, 97, 98, 101, 116]⟩ := ⟨_, rfl⟩
  have yw : w5.cell? ⟨w2.heap.size, 1, none⟩ = some (.string wd) := by rw [hwd]; exact (W5.cell 1).trans rfl
  have yc : w5.cell? ⟨w2.heap.size + 1, 1, none⟩ = some (.int .i64 0) := (C5.cell 1).trans rfl
  have htw : txt wd = pAlphabet := by rw [hwd]; rfl
  have du : (s0.toList == wd.toList) = decide (u = pAlphabet) := by
    rw [ByteArray.toList_eq, ByteArray.toList_eq, ← hu, ← htw]
    by_cases h : txt s0 = txt wd
    · rw [decide_eq_true h]; exact beq_iff_eq.2 h
    · rw [decide_eq_false h]; exact beq_eq_false_iff_ne.2 h
  have HSL := Lib.hid hsl
  have HU := Lib.hid hu
  have HST := Lib.hid hst
  have HSZ := Lib.hid hstz
  have HTL := Lib.hid htail
  have HSR := Lib.hid hsr
  have HW := Lib.hid W5
  clear hown hsr htail hsl hst hstz hwd W4 C4 W5 HP htw hlow P4 R4 l4 b5 hu
  have hkz : (q.cells (.slice ba ss.length bc)).size = 19 := rfl
  have hko : (q.cells (.slice ba ss.length bc)).toList.all (·.oneCell') = true := rfl
  have HKO := Lib.hid hko
  clear hko hkz
  by_cases hc1 : u = pAlphabet
  rotate_left
  · rw [decide_eq_false hc1] at du
    have hr : res = none := by rw [HRES.out, if_neg hc1]
    subst hr
    clear hc1
    go_upto_region 4 with fail
    go_quiet (fail)
    obtain ⟨w6, hw6⟩ : ∃ w6, w6 = w5.drewN nq := ⟨_, rfl⟩
    rw [← hw6]
    have b6 : Below w5.heap.size w5 w6 := by rw [hw6]; exact drewN_below _ _
    have l6 := l5.trans (b6.mono l5.size)
    have P6 := P5.below b6
    have R6 := R5.below b6
    clear hw6
    go_wp2_with (first | (refine wpList_val (o := ⟨some 26, Op.load 35 _, _, _, _, _⟩) rfl (Instr.loadAt 35 _) rfl _ (pl_load P6 rfl) ?_) | (refine wpList_unit (o := ⟨none, Op.store 35 (.tmp 6) _, _, _, _, _⟩) rfl rfl (Instr.storeAt 35 _ _) rfl (blk_store (c' := q.cells (.slice ba ss.length bc)) R6 size35' rfl rfl) ?_) | fail)
    exact ⟨rfl, .tuple #[.agg (q.cells (.slice ba ss.length bc)), .bool false], results75_any (setRow_heap _ _ _ (q.cells (.slice ba ss.length bc)) 35 R6) rfl rfl rfl, pl_fin (res := none) l6 (by omega) R6 rfl HKO.out rfl⟩
  rw [decide_eq_true hc1] at du
  have hr1 : res = readLine 0 (q.pl (ss.map txt)) us := by rw [HRES.out, if_pos hc1]
  have HR := Lib.hid hr1
  clear hc1 hr1 HRES
  go_upto_region 4 with fail
  go_quiet (fail)
  obtain ⟨w6, hw6⟩ : ∃ w6, w6 = w5.drewN nq := ⟨_, rfl⟩
  rw [← hw6]
  have b6 : Below w5.heap.size w5 w6 := by rw [hw6]; exact drewN_below _ _
  have l6 := l5.trans (b6.mono l5.size)
  have P6 := P5.below b6
  have R6 := R5.below b6
  have yc6 := cell_below yc b6
  have T6 := HTL.out.below b6
  have S6 := HSR.out.below b6
  have h56 := b6.size
  have h45 : w4.heap.size ≤ w6.heap.size := by omega
  clear hw6 yw yc P5 R5 b6 l5 du C5
  have HSR6 := Lib.hid S6
  have HT6 := Lib.hid T6
  have HCC := Lib.hid hc
  clear S6 T6
  go_wp2_with fail
  go_loopw [11] (fun t wr => ∃ i : Nat, t = .int .i64 i ∧ 1 ≤ i ∧ i ≤ st.length + 1 ∧ wr = w6 ∧ ∀ j (hj : j < st.length), j + 1 < i → isTokL (txt st[j]) = true) (fun t wr => st.length + 1 - (intOf t).toNat)
  case atStart => exact ⟨1, rfl, Nat.le_refl _, by omega, rfl, fun j hj h => by omega⟩
  case round =>
    obtain ⟨i, rfl, hi1, hi, hwr, hall⟩ := hrel
    rw [hwr]
    have HALL := Lib.hid hall
    clear hall hwr
    by_cases hlt : i < st.length + 1
    · obtain ⟨j, rfl⟩ : ∃ j, i = j + 1 := ⟨i - 1, by omega⟩
      have hj : j < st.length := by omega
      have hjc : j + 1 < (s0 :: st).length := by simp; omega
      obtain ⟨L', o', e', hcj⟩ := srw_get HSR6.out hjc
      cases e'
      rw [List.getElem_cons_succ] at hcj
      have HX := Lib.hid (show ∀ x, x = st[j] → isTokL (txt x) = true → ∀ k (hk : k < st.length), k + 1 < j + 1 + 1 → isTokL (txt st[k]) = true from fun x hx ht k hk h => by
        by_cases e : k = j
        · subst e; rw [← hx]; exact ht
        · exact HALL.out k hk (by omega))
      have HY := Lib.hid (show ∀ x, x = st[j] → isTokL (txt x) = false → res = none from fun x hx ht => by
        have hm : txt x ∈ us := by rw [← HST.out, hx]; exact List.mem_map.2 ⟨st[j], List.getElem_mem hj, rfl⟩
        rw [HR.out]
        exact read_bad0 hm ht)
      obtain ⟨x, hx⟩ : ∃ x, x = st[j] := ⟨_, rfl⟩
      rw [← hx] at hcj
      have hxz : x.size ≤ 65536 := HSZ.out x (by rw [hx]; exact List.getElem_mem hj)
      have HXE := Lib.hid hx
      have HT := Lib.hid (token_any x w6 (by omega))
      clear hx
      cases ht : isTokL (txt x) with
      | false =>
        rw [ht] at HT
        have hr := HY.out x HXE.out ht
        subst hr
        clear ht HX HY HALL HR
        go_wp2_with (first | (go_at_call 72; (with_reducible refine HT.out.mono ?_); rintro ex wz ⟨rfl, hz⟩; rw [hz]; clear hz) | (refine wpList_val (o := ⟨some 45, Op.load 35 _, _, _, _, _⟩) rfl (Instr.loadAt 35 _) rfl _ (pl_load P6 rfl) ?_) | (refine wpList_unit (o := ⟨none, Op.store 35 (.tmp 6) _, _, _, _, _⟩) rfl rfl (Instr.storeAt 35 _ _) rfl (blk_store (c' := q.cells (.slice ba ss.length bc)) R6 size35' rfl rfl) ?_) | fail)
        exact ⟨rfl, .tuple #[.agg (q.cells (.slice ba ss.length bc)), .bool false], results75_any (setRow_heap _ _ _ (q.cells (.slice ba ss.length bc)) 35 R6) rfl rfl rfl, pl_fin (res := none) l6 (by omega) R6 rfl HKO.out rfl⟩
      | true =>
        rw [ht] at HT
        have HNX := Lib.hid (HX.out x HXE.out ht)
        clear ht HX HY HALL
        go_wp2_with (first | (go_at_call 72; (with_reducible refine HT.out.mono ?_); rintro ex wz ⟨rfl, hz⟩; rw [hz]; clear hz) | fail)
        go_roundw
        case rel => exact ⟨j + 1 + 1, by go_num, by omega, by omega, by trivial, HNX.out⟩
        case measure => simp [intOf]; omega
    · have hil : i = st.length + 1 := by omega
      have hdl : decide ((i : Int) < ((st.length + 1 : Nat) : Int)) = false := decide_eq_false (by omega)
      have hta : us.all isTokL = true := by
        rw [← HST.out, List.all_eq_true]
        intro y hy
        obtain ⟨x, hx, rfl⟩ := List.mem_map.1 hy
        obtain ⟨j, hj, rfl⟩ := List.getElem_of_mem hx
        exact HALL.out j hj (by omega)
      have HTA := Lib.hid hta
      clear hta HALL
      by_cases h1 : st.length = 1
      rotate_left
      · have d2 : (((st.length + 1 : Nat) : Int) != 2) = true := by simp; omega
        have hr : res = none := by
          rw [HR.out]
          have : us.length ≠ 1 := by rw [← HST.out, List.length_map]; exact h1
          exact read_many this
        subst hr
        clear h1 HR HTA
        go_wp2_with (first | (refine wpList_val (o := ⟨some 56, Op.load 35 _, _, _, _, _⟩) rfl (Instr.loadAt 35 _) rfl _ (pl_load P6 rfl) ?_) | (refine wpList_unit (o := ⟨none, Op.store 35 (.tmp 6) _, _, _, _, _⟩) rfl rfl (Instr.storeAt 35 _ _) rfl (blk_store (c' := q.cells (.slice ba ss.length bc)) R6 size35' rfl rfl) ?_) | fail)
        exact ⟨rfl, .tuple #[.agg (q.cells (.slice ba ss.length bc)), .bool false], results75_any (setRow_heap _ _ _ (q.cells (.slice ba ss.length bc)) 35 R6) rfl rfl rfl, pl_fin (res := none) l6 (by omega) R6 rfl HKO.out rfl⟩
      obtain ⟨x, rfl⟩ : ∃ x, st = [x] := by
        match st, h1 with
        | [x], _ => exact ⟨x, rfl⟩
      have d2 : (((([x] : List ByteArray).length + 1 : Nat) : Int) != 2) = false := by simp
      have cx : w6.cell? ⟨g, o + 1, none⟩ = some (.string x) := by
        obtain ⟨L', o', e', h⟩ := srw_get HSR6.out (i := 1) (by simp)
        cases e'
        exact h
      have hrs : res = some { q.pl (ss.map txt) with alphabet := txt x } := by
        rw [HR.out]
        have hu1 : us = [txt x] := HST.out.symm
        have ht := HTA.out
        rw [hu1] at ht ⊢
        have ht2 : isTokL (txt x) = true := by simpa using ht
        unfold readLine
        simp [ht2]
      have cc : w6.cell? ⟨w.heap.size, 0, none⟩ = some (.string q.al) := (P6.cell 0).trans rfl
      have ff := P6.frozen 0
      obtain ⟨w8, hw8⟩ : ∃ w8, w8 = w6.setCell ⟨w.heap.size, 0, none⟩ (.string x) := ⟨_, rfl⟩
      have s8 : Stays (fun k => k = w.heap.size) w6 w8 := by rw [hw8]; exact Stays.cell (.refl _ w6) 0 _
      have P8 : Blk w8 w.heap.size (({ q with al := x } : PV).cells (.slice ba ss.length bc)) 35 := by rw [hw8]; exact P6.set 0 (.string x)
      have b8 : Below w.heap.size w6 w8 := s8.below l6.size (fun j hj e => by have e' : j = w.heap.size := e; omega)
      have l8 := l6.trans b8
      have R8 : Blk w8 (w.heap.size + 1) (PV.zero.cells (.slice none 0 0)) 35 := R6.stays s8 (by omega)
      have K8 : PLk w8 w.heap.size (w.heap.size + 1) (.slice ba ss.length bc) ss (({ q with al := x } : PV).cells (.slice ba ss.length bc)) true res := by
        rw [hrs]
        exact ⟨rfl, { q with al := x }, .slice ba ss.length bc, ss, rfl, HS.out.below l8, rfl, fun L o m' c e h0 => by have := srw_low HS.out e h0; omega, .inl ⟨rfl, rfl⟩⟩
      have HK8 := Lib.hid K8
      have HW8 := Lib.hid hw8
      have hcx : 2 ≤ c := HCC.out
      clear K8 hw8 hrs HR h1 s8 b8 R6 HTA
      rw [show ([x] : List ByteArray).length + 1 = 2 from rfl] at *
      go_upto_region 18 with fail
      rw [← HW8.out]
      go_wp2_with (first | (refine wpList_val (o := ⟨some 62, Op.load 35 _, _, _, _, _⟩) rfl (Instr.loadAt 35 _) rfl _ (pl_load P8 rfl) ?_) | (refine wpList_unit (o := ⟨none, Op.store 35 (.tmp 6) _, _, _, _, _⟩) rfl rfl (Instr.storeAt 35 _ _) rfl (blk_store (c' := ({ q with al := x } : PV).cells (.slice ba ss.length bc)) R8 size35' rfl rfl) ?_) | fail)
      exact ⟨rfl, .tuple #[.agg (({ q with al := x } : PV).cells (.slice ba ss.length bc)), .bool true], results75_any (setRow_heap _ _ _ (({ q with al := x } : PV).cells (.slice ba ss.length bc)) 35 R8) rfl rfl rfl, pl_fin l8 (by omega) R8 rfl rfl HK8.out⟩
set_option maxRecDepth 100000 in
set_option maxHeartbeats 8000000 in
theorem plantLine_2 {w : World} {q : PV} {bv : Value} {ss : List ByteArray} (hs : SRw w bv ss) {s : ByteArray} (hz : s.size ≤ 65536) (h0 : ss = []) : Calls Tryz.prog 75 #[.agg (q.cells bv), .int .i64 3, .string s] w (RetPL w bv ss (lineP 2 pBanned (q.pl (ss.map txt)) (cutAt 32 (txt s)))) := by
  obtain ⟨ba, bc, rfl⟩ := hs.form
  obtain ⟨u, us, hcut⟩ := cut_cons 32 (txt s)
  have hcl := cut_len 32 (txt s)
  have hsz : (txt s).length = s.size := by simp
  rw [hcut] at hcl
  rw [hcut, lineP_cons]
  have hus : us.length ≤ 65536 := by have := hcl.2; simp at this; omega
  have hup : ∀ p ∈ us, p.length ≤ 65536 := fun p hp => by have := hcl.1 p (by simp [hp]); omega
  obtain ⟨res, hres⟩ : ∃ res, res = if u = pBanned then readLine 2 (q.pl (ss.map txt)) us else none := ⟨_, rfl⟩
  rw [← hres]
  obtain ⟨w2, hw2⟩ : ∃ w2, w2 = (w.alloc (.cells (q.cells (.slice ba ss.length bc)) 35)).alloc (.cells #[.string ⟨#[]⟩, .int .i64 0, .slice none 0 0, .bool false, .int .i64 0, .int .i64 0, .int .i64 0, .int .i64 0, .bool false, .int .i64 0, .int .i64 0, .int .i64 0, .int .i64 0, .int .i64 0, .int .i64 0, .int .i64 0, .int .i64 0, .int .i64 0, .int .i64 0] 35) := ⟨_, rfl⟩
  have l2 : Below w.heap.size w w2 := by rw [hw2]; exact ((Below.refl _ w).alloc (Nat.le_refl _) _).alloc (by simp) _
  have P2 : Blk w2 w.heap.size (q.cells (.slice ba ss.length bc)) 35 := by rw [hw2]; exact (Blk.new w _ _).alloc _
  have R2 : Blk w2 (w.heap.size + 1) (PV.zero.cells (.slice none 0 0)) 35 := by rw [hw2]; exact Blk.newAt (by simp) _ _
  have z2 : w2.heap.size = w.heap.size + 1 + 1 := by rw [hw2]; simp
  obtain ⟨w4, hw4⟩ : ∃ w4, w4 = (w2.alloc (.cells pWords 189)).alloc (.cells pCounts 190) := ⟨_, rfl⟩
  have b24 : Below w2.heap.size w2 w4 := by rw [hw4]; exact ((Below.refl _ w2).alloc (Nat.le_refl _) _).alloc (by simp) _
  have W4 : Blk w4 w2.heap.size pWords 189 := by rw [hw4]; exact (Blk.new w2 _ _).alloc _
  have C4 : Blk w4 (w2.heap.size + 1) pCounts 190 := by rw [hw4]; exact Blk.newAt (by simp) _ _
  have l4 := l2.trans (b24.mono l2.size)
  have P4 := P2.below b24
  have R4 := R2.below b24
  have hR2 : w.heap.size + 1 < w2.heap.size := by omega
  have h24 : w2.heap.size + 1 < w4.heap.size := C4.lt
  have hp := partsR_any (w := w4) s 32 (by omega)
  rw [hcut] at hp
  have HP := Lib.hid hp
  have HW2 := Lib.hid hw2
  have HW4 := Lib.hid hw4
  have HRES := Lib.hid hres
  have HUS := Lib.hid hus
  have HUP := Lib.hid hup
  have HS := Lib.hid hs
  have HH0 := Lib.hid h0
  clear h0
  clear hp hw2 hw4 hres hcl hsz hcut hus hup hs P2 R2 z2 l2 b24
  go_enter Tryz.func75, Tryz.ntmps75
  go_upto_region 1 with fail
  rw [← HW2.out]
  go_upto_region 3 with (first | (refine wpList_val (o := ⟨some 15, _, _, _, _, _⟩) rfl (Instr.build 189 _) rfl _ (pWords_build _) ?_) | (refine wpList_val (o := ⟨some 8, _, _, _, _, _⟩) rfl (Instr.alloc 189 true (.tuple #[])) rfl _ (pWords_alloc _) ?_) | (refine wpList_unit (o := ⟨none, Op.store 189 _ _, _, _, _, _⟩) rfl rfl (Instr.storeAt 189 _ _) rfl (pWords_store _) ?_) | (refine wpList_val (o := ⟨some 16, _, _, _, _, _⟩) rfl (Instr.build 190 _) rfl _ (pCounts_build _) ?_) | (refine wpList_val (o := ⟨some 9, _, _, _, _, _⟩) rfl (Instr.alloc 190 true (.tuple #[])) rfl _ (pCounts_alloc _) ?_) | (refine wpList_unit (o := ⟨none, Op.store 190 _ _, _, _, _, _⟩) rfl rfl (Instr.storeAt 190 _ _) rfl (pCounts_store _) ?_) | fail)
  rw [← HW4.out]
  go_wp2_with fail
  refine HP.out.mono ?_
  rintro e w5 ⟨b5, v, pss, rfl, hown, htx⟩
  have l5 := l4.trans (b5.mono l4.size)
  have P5 := P4.below b5
  have R5 := R4.below b5
  have W5 := W4.below b5
  have h45a := b5.size
  have C5 := C4.below b5
  obtain ⟨s0, st, rfl⟩ : ∃ s0 st, pss = s0 :: st := by
    cases pss with
    | nil => cases htx
    | cons a b => exact ⟨a, b, rfl⟩
  simp only [List.map_cons, List.cons.injEq] at htx
  obtain ⟨hu, hst⟩ := htx
  have hsr := (srow_of hown).rw
  have hlow : ∀ L o m c, v = .slice (some ⟨L, o, none⟩) m c → w4.heap.size ≤ L := fun L o m c e => by
    rcases hown.2 with ⟨h, _⟩ | ⟨g, cap, cur, h, hb, _⟩
    · rw [h] at e; cases e
    · rw [h] at e; injection e with e _ _; injection e with e; injection e with e _ _; omega
  obtain ⟨g, o, c, rfl, hc, hc0, A, hsl, htail⟩ := srw_tail hsr
  have hg4 := hlow g o _ _ rfl
  have hstl : st.length ≤ 65536 := by
    have : st.length = us.length := by rw [← hst]; simp
    have := HUS.out
    omega
  have hstz : ∀ x ∈ st, x.size ≤ 65536 := fun x hx => by
    have := HUP.out (txt x) (by rw [← hst]; exact List.mem_map.2 ⟨x, hx, rfl⟩)
    simp at this
    omega
  obtain ⟨wd, hwd⟩ : ∃ wd : ByteArray, wd = ⟨#[98, 97, 110, 110, 101, 100]⟩ := ⟨_, rfl⟩
  have yw : w5.cell? ⟨w2.heap.size, 3, none⟩ = some (.string wd) := by rw [hwd]; exact (W5.cell 3).trans rfl
  have yc : w5.cell? ⟨w2.heap.size + 1, 3, none⟩ = some (.int .i64 0) := (C5.cell 3).trans rfl
  have htw : txt wd = pBanned := by rw [hwd]; rfl
  have du : (s0.toList == wd.toList) = decide (u = pBanned) := by
    rw [ByteArray.toList_eq, ByteArray.toList_eq, ← hu, ← htw]
    by_cases h : txt s0 = txt wd
    · rw [decide_eq_true h]; exact beq_iff_eq.2 h
    · rw [decide_eq_false h]; exact beq_eq_false_iff_ne.2 h
  have HSL := Lib.hid hsl
  have HU := Lib.hid hu
  have HST := Lib.hid hst
  have HSZ := Lib.hid hstz
  have HTL := Lib.hid htail
  have HSR := Lib.hid hsr
  have HW := Lib.hid W5
  clear hown hsr htail hsl hst hstz hwd W4 C4 W5 HP htw hlow P4 R4 l4 b5 hu
  have hkz : (q.cells (.slice ba ss.length bc)).size = 19 := rfl
  have hko : (q.cells (.slice ba ss.length bc)).toList.all (·.oneCell') = true := rfl
  have HKO := Lib.hid hko
  clear hko hkz
  by_cases hc1 : u = pBanned
  rotate_left
  · rw [decide_eq_false hc1] at du
    have hr : res = none := by rw [HRES.out, if_neg hc1]
    subst hr
    clear hc1
    go_upto_region 4 with fail
    go_quiet (fail)
    obtain ⟨w6, hw6⟩ : ∃ w6, w6 = w5.drewN nq := ⟨_, rfl⟩
    rw [← hw6]
    have b6 : Below w5.heap.size w5 w6 := by rw [hw6]; exact drewN_below _ _
    have l6 := l5.trans (b6.mono l5.size)
    have P6 := P5.below b6
    have R6 := R5.below b6
    clear hw6
    go_wp2_with (first | (refine wpList_val (o := ⟨some 26, Op.load 35 _, _, _, _, _⟩) rfl (Instr.loadAt 35 _) rfl _ (pl_load P6 rfl) ?_) | (refine wpList_unit (o := ⟨none, Op.store 35 (.tmp 6) _, _, _, _, _⟩) rfl rfl (Instr.storeAt 35 _ _) rfl (blk_store (c' := q.cells (.slice ba ss.length bc)) R6 size35' rfl rfl) ?_) | fail)
    exact ⟨rfl, .tuple #[.agg (q.cells (.slice ba ss.length bc)), .bool false], results75_any (setRow_heap _ _ _ (q.cells (.slice ba ss.length bc)) 35 R6) rfl rfl rfl, pl_fin (res := none) l6 (by omega) R6 rfl HKO.out rfl⟩
  rw [decide_eq_true hc1] at du
  have hr1 : res = readLine 2 (q.pl (ss.map txt)) us := by rw [HRES.out, if_pos hc1]
  have HR := Lib.hid hr1
  clear hc1 hr1 HRES
  go_upto_region 4 with fail
  go_quiet (fail)
  obtain ⟨w6, hw6⟩ : ∃ w6, w6 = w5.drewN nq := ⟨_, rfl⟩
  rw [← hw6]
  have b6 : Below w5.heap.size w5 w6 := by rw [hw6]; exact drewN_below _ _
  have l6 := l5.trans (b6.mono l5.size)
  have P6 := P5.below b6
  have R6 := R5.below b6
  have yc6 := cell_below yc b6
  have T6 := HTL.out.below b6
  have S6 := HSR.out.below b6
  have h56 := b6.size
  have h45 : w4.heap.size ≤ w6.heap.size := by omega
  clear hw6 yw yc P5 R5 b6 l5 du C5
  have HSR6 := Lib.hid S6
  have HT6 := Lib.hid T6
  have HCC := Lib.hid hc
  clear S6 T6
  go_wp2_with fail
  go_loopw [11] (fun t wr => ∃ i : Nat, t = .int .i64 i ∧ 1 ≤ i ∧ i ≤ st.length + 1 ∧ wr = w6 ∧ ∀ j (hj : j < st.length), j + 1 < i → isTokL (txt st[j]) = true) (fun t wr => st.length + 1 - (intOf t).toNat)
  case atStart => exact ⟨1, rfl, Nat.le_refl _, by omega, rfl, fun j hj h => by omega⟩
  case round =>
    obtain ⟨i, rfl, hi1, hi, hwr, hall⟩ := hrel
    rw [hwr]
    have HALL := Lib.hid hall
    clear hall hwr
    by_cases hlt : i < st.length + 1
    · obtain ⟨j, rfl⟩ : ∃ j, i = j + 1 := ⟨i - 1, by omega⟩
      have hj : j < st.length := by omega
      have hjc : j + 1 < (s0 :: st).length := by simp; omega
      obtain ⟨L', o', e', hcj⟩ := srw_get HSR6.out hjc
      cases e'
      rw [List.getElem_cons_succ] at hcj
      have HX := Lib.hid (show ∀ x, x = st[j] → isTokL (txt x) = true → ∀ k (hk : k < st.length), k + 1 < j + 1 + 1 → isTokL (txt st[k]) = true from fun x hx ht k hk h => by
        by_cases e : k = j
        · subst e; rw [← hx]; exact ht
        · exact HALL.out k hk (by omega))
      have HY := Lib.hid (show ∀ x, x = st[j] → isTokL (txt x) = false → res = none from fun x hx ht => by
        have hm : txt x ∈ us := by rw [← HST.out, hx]; exact List.mem_map.2 ⟨st[j], List.getElem_mem hj, rfl⟩
        rw [HR.out]
        exact read_bad2 hm ht)
      obtain ⟨x, hx⟩ : ∃ x, x = st[j] := ⟨_, rfl⟩
      rw [← hx] at hcj
      have hxz : x.size ≤ 65536 := HSZ.out x (by rw [hx]; exact List.getElem_mem hj)
      have HXE := Lib.hid hx
      have HT := Lib.hid (token_any x w6 (by omega))
      clear hx
      cases ht : isTokL (txt x) with
      | false =>
        rw [ht] at HT
        have hr := HY.out x HXE.out ht
        subst hr
        clear ht HX HY HALL HR
        go_wp2_with (first | (go_at_call 72; (with_reducible refine HT.out.mono ?_); rintro ex wz ⟨rfl, hz⟩; rw [hz]; clear hz) | (refine wpList_val (o := ⟨some 45, Op.load 35 _, _, _, _, _⟩) rfl (Instr.loadAt 35 _) rfl _ (pl_load P6 rfl) ?_) | (refine wpList_unit (o := ⟨none, Op.store 35 (.tmp 6) _, _, _, _, _⟩) rfl rfl (Instr.storeAt 35 _ _) rfl (blk_store (c' := q.cells (.slice ba ss.length bc)) R6 size35' rfl rfl) ?_) | fail)
        exact ⟨rfl, .tuple #[.agg (q.cells (.slice ba ss.length bc)), .bool false], results75_any (setRow_heap _ _ _ (q.cells (.slice ba ss.length bc)) 35 R6) rfl rfl rfl, pl_fin (res := none) l6 (by omega) R6 rfl HKO.out rfl⟩
      | true =>
        rw [ht] at HT
        have HNX := Lib.hid (HX.out x HXE.out ht)
        clear ht HX HY HALL
        go_wp2_with (first | (go_at_call 72; (with_reducible refine HT.out.mono ?_); rintro ex wz ⟨rfl, hz⟩; rw [hz]; clear hz) | fail)
        go_roundw
        case rel => exact ⟨j + 1 + 1, by go_num, by omega, by omega, by trivial, HNX.out⟩
        case measure => simp [intOf]; omega
    · have hil : i = st.length + 1 := by omega
      have hdl : decide ((i : Int) < ((st.length + 1 : Nat) : Int)) = false := decide_eq_false (by omega)
      have hta : us.all isTokL = true := by
        rw [← HST.out, List.all_eq_true]
        intro y hy
        obtain ⟨x, hx, rfl⟩ := List.mem_map.1 hy
        obtain ⟨j, hj, rfl⟩ := List.getElem_of_mem hx
        exact HALL.out j hj (by omega)
      have HTA := Lib.hid hta
      clear hta HALL
      have hrs : res = some (({ q with ln := q.ln } : PV).pl (st.map txt)) := by
        rw [HR.out, HH0.out]
        unfold readLine
        rw [if_neg (by decide), if_neg (by decide), if_pos rfl, if_pos HTA.out, HST.out]
        rfl
      have cc : w6.cell? ⟨w.heap.size, 2, none⟩ = some (.slice ba ss.length bc) := (P6.cell 2).trans rfl
      have ff := P6.frozen 2
      obtain ⟨w8, hw8⟩ : ∃ w8, w8 = w6.setCell ⟨w.heap.size, 2, none⟩ (.slice (some A) st.length (c - 1)) := ⟨_, rfl⟩
      have s8 : Stays (fun k => k = w.heap.size) w6 w8 := by rw [hw8]; exact Stays.cell (.refl _ w6) 2 _
      have P8 : Blk w8 w.heap.size (q.cells (.slice (some A) st.length (c - 1))) 35 := by rw [hw8]; exact P6.set 2 (.slice (some A) st.length (c - 1))
      have b8 : Below w.heap.size w6 w8 := s8.below l6.size (fun j hj e => by have e' : j = w.heap.size := e; omega)
      have l8 := l6.trans b8
      have R8 : Blk w8 (w.heap.size + 1) (PV.zero.cells (.slice none 0 0)) 35 := R6.stays s8 (by omega)
      have hA : ∀ L o' m' c', Value.slice (some A) st.length (c - 1) = .slice (some ⟨L, o', none⟩) m' c' → st ≠ [] → L = g := fun L o' m' c' e h => by
        obtain ⟨A', hA', hs'⟩ := tail27 g o st.length _ HCC.out
        have h1 := (HSL.out w6).symm.trans (hs' w6)
        injection h1 with h1 _
        injection h1 with h1 _ _
        injection h1 with h1
        have h2 := hA' (fun e => h (List.length_eq_zero_iff.1 e))
        injection e with e _ _
        injection e with e
        rw [h1, h2] at e
        injection e with e _ _
        exact e.symm
      have T8 : SRw w8 (.slice (some A) st.length (c - 1)) st := srw_stays HT6.out s8 (fun L o' m' c' e h0 e' => by
        have h1 := hA L o' m' c' e h0
        have e' : L = w.heap.size := e'
        omega)
      have K8 : PLk w8 w.heap.size (w.heap.size + 1) (.slice ba ss.length bc) ss (q.cells (.slice (some A) st.length (c - 1))) true res := by
        rw [hrs]
        exact ⟨rfl, q, .slice (some A) st.length (c - 1), st, rfl, T8, rfl, fun L o' m' c' e h0 => by have := hA L o' m' c' e h0; omega, .inr fun L o' m' c' e h0 => by have := hA L o' m' c' e h0; omega⟩
      have HK8 := Lib.hid K8
      have HW8 := Lib.hid hw8
      clear K8 hw8 hrs HR s8 b8 R6 HTA T8 hA
      go_upto_region 14 with (first | (refine wpList_val (o := ⟨some 49, _, _, _, _, _⟩) rfl (Instr.sliceAt 27 _ _ _ _) rfl _ (HSL.out _) ?_) | fail)
      rw [← HW8.out]
      go_wp2_with (first | (refine wpList_val (o := ⟨some 52, Op.load 35 _, _, _, _, _⟩) rfl (Instr.loadAt 35 _) rfl _ (pl_load P8 rfl) ?_) | (refine wpList_unit (o := ⟨none, Op.store 35 (.tmp 6) _, _, _, _, _⟩) rfl rfl (Instr.storeAt 35 _ _) rfl (blk_store (c' := q.cells (.slice (some A) st.length (c - 1))) R8 size35' rfl rfl) ?_) | fail)
      exact ⟨rfl, .tuple #[.agg (q.cells (.slice (some A) st.length (c - 1))), .bool true], results75_any (setRow_heap _ _ _ (q.cells (.slice (some A) st.length (c - 1))) 35 R8) rfl rfl rfl, pl_fin l8 (by omega) R8 rfl rfl HK8.out⟩
end Go.Proofs.YtddnmocoaahlfaaGreatDoor
