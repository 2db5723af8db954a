/-
  The reference's ParsePlant. Condition: texts of at most 65536 bytes.
-/
import Derived.Test.YtddnmocoaahlfaaGreatDoorPlQA
import Derived.Test.YtddnmocoaahlfaaGreatDoorPlQB
import Derived.Test.YtddnmocoaahlfaaGreatDoorPlQC
import Derived.Test.YtddnmocoaahlfaaGreatDoorPlQD
import Derived.Test.YtddnmocoaahlfaaGreatDoorPlQE
import Derived.Test.YtddnmocoaahlfaaGreatDoorPlQF
import Derived.Test.YtddnmocoaahlfaaGreatDoorPlQG
import Derived.Test.YtddnmocoaahlfaaGreatDoorPlQH
import Derived.Test.YtddnmocoaahlfaaGreatDoorY22
import Derived.Test.YtddnmocoaahlfaaGreatDoorY21
set_option linter.unusedVariables false
set_option linter.unusedSimpArgs false

namespace Go.Proofs.YtddnmocoaahlfaaGreatDoor
open Go.RowKit Go.Shelf
theorem plantLine_any {w : World} {q : PV} {bv : Value} {ss : List ByteArray} (hs : SRw w bv ss) {s : ByteArray} (hz : s.size ≤ 65536) {k : Nat} (hk : k < 13) (h0 : k = 2 → ss = []) :
    Calls Tryz.prog 75 #[.agg (q.cells bv), .int .i64 ((k : Int) + 1), .string s] w (RetPL w bv ss (lineP k (plWords.getD k []) (q.pl (ss.map txt)) (cutAt 32 (txt s)))) := by
  match k, hk, h0 with
  | 0, _, _ => exact plantLine_0 hs hz
  | 1, _, _ => exact plantLine_1 hs hz
  | 2, _, h0 => exact plantLine_2 hs hz (h0 rfl)
  | 3, _, _ => exact plantLine_3 hs hz
  | 4, _, _ => exact plantLine_4 hs hz
  | 5, _, _ => exact plantLine_5 hs hz
  | 6, _, _ => exact plantLine_6 hs hz
  | 7, _, _ => exact plantLine_7 hs hz
  | 8, _, _ => exact plantLine_8 hs hz
  | 9, _, _ => exact plantLine_9 hs hz
  | 10, _, _ => exact plantLine_10 hs hz
  | 11, _, _ => exact plantLine_11 hs hz
  | 12, _, _ => exact plantLine_12 hs hz
  | n + 13, h, _ => exact absurd h (by omega)
theorem results40_any {tmps : Array Value} {w : World} {D : Nat} {cs : Array Value} {v3 v4 : Value} (h : Blk w D cs 35) (hs : cs.size = 19) (h2 : tmps.getD 2 undef = .pointer (some ⟨D, 0, none⟩)) (h3 : tmps.getD 3 undef = v3) (h4 : tmps.getD 4 undef = v4) :
    (results Tryz.f40 tmps).run Tryz.prog w = .ok (.tuple #[.agg cs, v3, v4]) w := by
  have hl := run_loadVar_row w D 35 35 cs (0, 0) _ h Tryz.underlying35 rfl (by rw [size35', hs])
  simp only [results, Tryz.results40, List.mapM_toArray, List.mapM_cons, List.mapM_nil, h2, h3, h4, asAddr, pure_bind, map_eq_pure_bind, bind_assoc, Sem.run_bind, Sem.run_pure, hl, Result.andThen_ok]
  rfl
theorem zero_str {o : Nat} {x : ByteArray} (h : (PV.zero.cells (.slice none 0 0))[o]? = some (.string x)) : txt x = [] := by
  match o, h with
  | 0, h => injection h with h; injection h with h; rw [← h]; rfl
  | 1, h => cases h
  | 2, h => cases h
  | 3, h => cases h
  | 4, h => cases h
  | 5, h => cases h
  | 6, h => cases h
  | 7, h => cases h
  | 8, h => cases h
  | 9, h => cases h
  | 10, h => cases h
  | 11, h => cases h
  | 12, h => cases h
  | 13, h => cases h
  | 14, h => cases h
  | 15, h => cases h
  | 16, h => cases h
  | 17, h => cases h
  | 18, h => cases h
  | n + 19, h => cases h
theorem read_keep {k : Nat} {p q : Pl} {ps : List (List UInt8)} (h : readLine k p ps = some q) (hk : k ≠ 2) : q.banned = p.banned := by
  match k, hk, h with
  | 0, _, h => obtain ⟨a, _, rfl⟩ := read0 h; rfl
  | 1, _, h => obtain ⟨v, o, rfl⟩ := Option.map_eq_some_iff.1 (show (oneL ps).map (fun n => { p with length := n }) = some q from h); rfl
  | 3, _, h =>
    obtain ⟨v, o, h⟩ := Option.bind_eq_some_iff.1 (show ((oneL ps).bind fun n => if n = 0 ∨ n = 1 then some { p with check := decide (n = 1) } else none) = some q from h)
    obtain ⟨_, rfl⟩ := if_some h
    rfl
  | 4, _, h =>
    obtain ⟨l, o, h⟩ := Option.bind_eq_some_iff.1 (show ((undecAllL ps).bind fun l => match l with | [a, b, c, d, e] => if e = 0 ∨ e = 1 then some { p with rows := a, cols := b, ream := c, bundle := d, down := decide (e = 1) } else none | _ => none) = some q from h)
    match l, h with
    | [a, b, c, d, e], h => obtain ⟨_, rfl⟩ := if_some h; rfl
  | 5, _, h =>
    obtain ⟨l, o, h⟩ := Option.bind_eq_some_iff.1 (show ((undecAllL ps).bind fun l => match l with | [a, b, c] => some { p with reprint := a, star := b, open_ := c } | _ => none) = some q from h)
    match l, h with
    | [a, b, c], h => injection h with h; subst h; rfl
  | 6, _, h => obtain ⟨v, o, rfl⟩ := Option.map_eq_some_iff.1 (show (oneL ps).map (fun n => { p with sheets := n }) = some q from h); rfl
  | 7, _, h => obtain ⟨v, o, rfl⟩ := Option.map_eq_some_iff.1 (show (oneL ps).map (fun n => { p with presses := n }) = some q from h); rfl
  | 8, _, h => obtain ⟨v, o, rfl⟩ := Option.map_eq_some_iff.1 (show (oneL ps).map (fun n => { p with life := n }) = some q from h); rfl
  | 9, _, h => obtain ⟨v, o, rfl⟩ := Option.map_eq_some_iff.1 (show (oneL ps).map (fun n => { p with plates := n }) = some q from h); rfl
  | 10, _, h => obtain ⟨v, o, rfl⟩ := Option.map_eq_some_iff.1 (show (oneL ps).map (fun n => { p with dry := n }) = some q from h); rfl
  | 11, _, h => obtain ⟨v, o, rfl⟩ := Option.map_eq_some_iff.1 (show (oneL ps).map (fun n => { p with vaults := n }) = some q from h); rfl
  | 12, _, h => obtain ⟨v, o, rfl⟩ := Option.map_eq_some_iff.1 (show (oneL ps).map (fun n => { p with blocks := n }) = some q from h); rfl
  | n + 13, _, h => exact nomatch (show none = some q from h)
/-- The banned strings stay strings of at least one byte. -/
theorem line_tok {k : Nat} {w : List UInt8} {p q : Pl} {ps : List (List UInt8)} (h : lineP k w p ps = some q) (hp : ∀ b ∈ p.banned, b ≠ []) : ∀ b ∈ q.banned, b ≠ [] := by
  unfold lineP at h
  split at h
  · by_cases hk : k = 2
    · subst hk
      obtain ⟨h1, h2⟩ := if_some (show (if ps.tail.all isTokL then some { p with banned := p.banned ++ ps.tail } else none) = some q from h)
      subst h2
      intro b hb
      rcases List.mem_append.1 hb with hb | hb
      · exact hp b hb
      · have := List.all_eq_true.1 h1 b hb
        rintro rfl
        exact absurd this (by decide)
    · rw [read_keep h hk]; exact hp
  · cases h
/-- What plantLine's result holds. -/
def CsOk (wr : World) (bv : Value) (ss : List ByteArray) (lr : Option Pl) (cs : Array Value) (w : World) : Prop := cs.size = 19 ∧ cs.toList.all (·.oneCell') = true ∧ ∀ p, lr = some p → ∃ (q : PV) (bv' : Value) (ss' : List ByteArray), cs = q.cells bv' ∧ SRw w bv' ss' ∧ q.pl (ss'.map txt) = p ∧ ((bv' = bv ∧ ss' = ss) ∨ ∀ L o m c, bv' = .slice (some ⟨L, o, none⟩) m c → ss' ≠ [] → wr.heap.size ≤ L)
theorem CsOk.below {wr : World} {bv : Value} {ss : List ByteArray} {lr : Option Pl} {cs : Array Value} {w w' : World} (h : CsOk wr bv ss lr cs w) (b : Below w.heap.size w w') : CsOk wr bv ss lr cs w' := by
  obtain ⟨h1, h2, h3⟩ := h
  refine ⟨h1, h2, fun p hp => ?_⟩
  obtain ⟨q, bv', ss', g1, g2, g3, g4⟩ := h3 p hp
  exact ⟨q, bv', ss', g1, g2.below b, g3, g4⟩
def KRes (wr : World) (bv : Value) (ss : List ByteArray) (lr : Option Pl) : Kp := ⟨fun v w => ∃ cs, v = .tuple #[.agg cs, .bool lr.isSome] ∧ CsOk wr bv ss lr cs w, fun v w w' ⟨cs, h1, h2⟩ b => ⟨cs, h1, h2.below b⟩⟩
def KAgg (wr : World) (bv : Value) (ss : List ByteArray) (lr : Option Pl) : Kp := ⟨fun v w => ∃ cs, v = .agg cs ∧ CsOk wr bv ss lr cs w, fun v w w' ⟨cs, h1, h2⟩ b => ⟨cs, h1, h2.below b⟩⟩
def KBlk (wr : World) : Kp := ⟨fun v w => ∃ R8, v = .pointer (some ⟨R8, 0, none⟩) ∧ Blk w R8 (PV.zero.cells (.slice none 0 0)) 35 ∧ wr.heap.size ≤ R8, fun v w w' ⟨R8, h1, h2, h3⟩ b => ⟨R8, h1, h2.below b, h3⟩⟩
theorem res_keep {wr w w' : World} {bv : Value} {ss : List ByteArray} {lr : Option Pl} {e : Ending} (hb : Below wr.heap.size wr w) (h : RetPL w bv ss lr e w') : Below w.heap.size w w' ∧ ∃ u, e = .returned u ∧ (KRes wr bv ss lr).p u w' := by
  obtain ⟨b, cs, bb, rfl, h1, h2, h3⟩ := h
  refine ⟨b, _, rfl, cs, ?_, h1, h2, fun p hp => ?_⟩
  · cases lr with
    | none => have h3 : bb = false := h3; rw [h3]; rfl
    | some p => have h3 := h3.1; rw [h3]; rfl
  · subst hp
    obtain ⟨_, q, bv', ss', g1, g2, g3, g4⟩ := h3
    exact ⟨q, bv', ss', g1, g2, g3, g4.imp id fun g L o m c e h => Nat.le_trans hb.size (g L o m c e h)⟩
theorem cs_store {wr w4 : World} {bv : Value} {ss : List ByteArray} {lr : Option Pl} {cs : Array Value} {R8 : Nat} (h : CsOk wr bv ss lr cs w4) (B8 : Blk w4 R8 (PV.zero.cells (.slice none 0 0)) 35) (htok : ∀ p, lr = some p → ∀ b ∈ p.banned, b ≠ []) : CsOk wr bv ss lr cs (w4.setRow R8 cs) := by
  obtain ⟨h1, h2, h3⟩ := h
  refine ⟨h1, h2, fun p hp => ?_⟩
  obtain ⟨q, bv', ss', g1, g2, g3, g4⟩ := h3 p hp
  refine ⟨q, bv', ss', g1, srw_stays g2 (setRow_stays w4 R8 cs) (fun L' o' m c e h e8 => ?_), g3, g4⟩
  have e8 : L' = R8 := e8
  have hbt : ∀ b ∈ ss'.map txt, b ≠ [] := by
    have h1 : (q.pl (ss'.map txt)).banned = ss'.map txt := rfl
    rw [← h1, g3]
    exact htok p hp
  have hpos := List.length_pos_iff.2 h
  subst e
  obtain ⟨L2, o2, e2, hc2⟩ := srw_get g2 hpos
  cases e2
  rw [e8, Nat.add_zero, B8.cell o'] at hc2
  have := zero_str hc2
  exact hbt _ (List.mem_map.2 ⟨_, List.getElem_mem hpos, rfl⟩) this
set_option maxRecDepth 100000 in
set_option maxHeartbeats 8000000 in
theorem parsePlantR_any {w : World} (s : ByteArray) (hs : s.size ≤ 65536) : Calls Tryz.prog 40 #[.string s] w (RetPl w (parsePlantT (txt s))) := by
  rw [parsePlant_pieces]
  obtain ⟨res, hres⟩ : ∃ res, res = goPieces plWords 0 plZero (cutAt 10 (txt s)) := ⟨_, rfl⟩
  rw [← hres]
  have hcl := cut_len 10 (txt s)
  have hsz : (txt s).length = s.size := by simp
  obtain ⟨w2, hw2⟩ : ∃ w2, w2 = (w.alloc (.cells #[.string ⟨#[]⟩, .int .i64 0, .slice none 0 0, .bool false, .int .i64 0, .int .i64 0, .int .i64 0, .int .i64 0, .bool false, .int .i64 0, .int .i64 0, .int .i64 0, .int .i64 0, .int .i64 0, .int .i64 0, .int .i64 0, .int .i64 0, .int .i64 0, .int .i64 0] 35)).alloc (.cells #[.string ⟨#[]⟩, .int .i64 0, .slice none 0 0, .bool false, .int .i64 0, .int .i64 0, .int .i64 0, .int .i64 0, .bool false, .int .i64 0, .int .i64 0, .int .i64 0, .int .i64 0, .int .i64 0, .int .i64 0, .int .i64 0, .int .i64 0, .int .i64 0, .int .i64 0] 35) := ⟨_, rfl⟩
  have l2 : Below w.heap.size w w2 := by rw [hw2]; exact ((Below.refl _ w).alloc (Nat.le_refl _) _).alloc (by simp) _
  have D2 : Blk w2 w.heap.size (PV.zero.cells (.slice none 0 0)) 35 := by rw [hw2]; exact (Blk.new w _ _).alloc _
  have R2 : Blk w2 (w.heap.size + 1) (PV.zero.cells (.slice none 0 0)) 35 := by rw [hw2]; exact Blk.newAt (by simp) _ _
  have hp := partsR_any (w := w2) s 10 (by omega)
  have HP := Lib.hid hp
  have HW2 := Lib.hid hw2
  have HRES := Lib.hid hres
  have HCL := Lib.hid hcl
  clear hp hw2 hres hcl
  go_enter Tryz.func40, Tryz.ntmps40
  go_upto_region 2 with fail
  rw [← HW2.out]
  go_wp2_with fail
  refine HP.out.mono ?_
  rintro e w3 ⟨b3, v, ls, rfl, hown, htx⟩
  have l3 := l2.trans (b3.mono l2.size)
  have D3 := D2.below b3
  have R3 := R2.below b3
  have hR2 : w.heap.size + 1 < w2.heap.size := R2.lt
  have hlow : ∀ L o m c, v = .slice (some ⟨L, o, none⟩) m c → w2.heap.size ≤ L := fun L o m c e => by
    rcases hown.2 with ⟨h, _⟩ | ⟨g, cap, cur, h, hb, _⟩
    · rw [h] at e; cases e
    · rw [h] at e; injection e with e _ _; injection e with e; injection e with e _ _; omega
  have hsr := (srow_of hown).rw
  obtain ⟨la, lc, rfl⟩ := hsr.form
  have hlz : ∀ x ∈ ls, x.size ≤ 65536 := fun x hx => by
    have := HCL.out.1 (txt x) (by rw [← htx]; exact List.mem_map.2 ⟨x, hx, rfl⟩)
    have h2 : (txt x).length = x.size := by simp
    omega
  have hll : ls.length ≤ 65537 := by
    have h1 := HCL.out.2
    rw [← htx, List.length_map] at h1
    omega
  have HSR := Lib.hid hsr
  have HTX := Lib.hid htx
  have HLZ := Lib.hid hlz
  have HD3 := Lib.hid D3
  have HR3 := Lib.hid R3
  have HLOW := Lib.hid (show ∀ L o, la = some ⟨L, o, none⟩ → w2.heap.size ≤ L from fun L o e => hlow L o _ _ (by rw [e]))
  have h23 := b3.size
  clear hown hsr htx hlz D3 R3 hlow HP D2 R2 l2 b3 hs hsz
  go_wp2_with fail
  go_loopw [7] (fun t7 wr => ∃ (k : Nat) (q : PV) (bv : Value) (ss : List ByteArray), t7 = .int .i64 ((k : Int) + 1) ∧ k ≤ 13 ∧ Blk wr (w.heap.size + 1) (q.cells bv) 35 ∧ SRw wr bv ss ∧ (∀ L o m c, bv = .slice (some ⟨L, o, none⟩) m c → ss ≠ [] → w2.heap.size ≤ L) ∧ goPieces (plWords.drop k) k (q.pl (ss.map txt)) ((ls.map txt).drop k) = res ∧ Stays (fun j => j = w.heap.size + 1) w3 wr ∧ (k ≤ 2 → ss = []) ∧ ∀ b ∈ ss.map txt, b ≠ []) (fun t7 wr => 14 - (intOf t7).toNat)
  case atStart => exact ⟨0, PV.zero, .slice none 0 0, [], rfl, by decide, HR3.out, .inl ⟨rfl, _, _, rfl⟩, (fun _ _ _ _ e h => absurd rfl h), by rw [HTX.out]; exact HRES.out.symm, .refl _ _, (fun _ => rfl), fun b hb => by cases hb⟩
  case round =>
    obtain ⟨k, q, bv, ss, rfl, hk, hblk, hrow, hne, hgo, hst, hbn, htk⟩ := hrel
    have hszr := hst.size
    have hbw : Below w.heap.size w wr := l3.trans (hst.below l3.size (fun j hj e => by have e' : j = w.heap.size + 1 := e; omega))
    have HGO := Lib.hid hgo
    have HBN := Lib.hid hbn
    have HNE := Lib.hid hne
    have HROW := Lib.hid hrow
    have HST := Lib.hid hst
    have HBW := Lib.hid hbw
    have hDr : Blk wr w.heap.size (PV.zero.cells (.slice none 0 0)) 35 := HD3.out.stays hst (by omega)
    clear hgo hbn hne hst hbw
    have failing : res = (plZero, k + 1, 4) → ∀ w4, Below wr.heap.size wr w4 → RetPl w res (.returned (.tuple #[.agg (PV.zero.cells (.slice none 0 0)), .int .i64 ((k : Int) + 1), .int .i64 4])) (w4.setRow w.heap.size (PV.zero.cells (.slice none 0 0))) := fun hr w4 b4 => by
      rw [hr]
      have hb4 := HBW.out.trans (b4.mono HBW.out.size)
      refine ⟨hb4.trans ((setRow_stays w4 w.heap.size _).below hb4.size (fun j hj e => by have e' : j = w.heap.size := e; omega)), PV.zero, .slice none 0 0, [], by simp, .inl ⟨rfl, _, _, rfl⟩, rfl⟩
    have HFAIL := Lib.hid failing
    clear failing
    by_cases hlt : k < 13
    · have hk13 : k < plWords.length := hlt
      have hdr : plWords.drop k = plWords.getD k [] :: plWords.drop (k + 1) := by
        rw [List.drop_eq_getElem_cons hk13, List.getD_eq_getElem?_getD, List.getElem?_eq_getElem hk13]
        rfl
      have HDR := Lib.hid hdr
      clear hdr hk13
      by_cases hshort : ls.length ≤ k + 1
      · have d1 : decide ((ls.length : Int) ≤ (k : Int) + 1) = true := decide_eq_true (by omega)
        have hr : res = (plZero, k + 1, 4) := by
          rw [← HGO.out, HDR.out]
          exact pieces_short (by rw [List.length_drop, List.length_map]; omega)
        have HFF := Lib.hid (HFAIL.out hr wr (Below.refl _ _))
        clear hr hshort HGO HFAIL
        go_wp2_with (refine wpList_unit (o := ⟨none, Op.store 35 (.tmp 2) _, _, _, _, _⟩) rfl rfl (Instr.storeAt 35 _ _) rfl (blk_store (c' := PV.zero.cells (.slice none 0 0)) hDr size35' rfl rfl) ?_)
        exact ⟨rfl, _, results40_any (setRow_heap wr w.heap.size _ (PV.zero.cells (.slice none 0 0)) 35 hDr) rfl rfl rfl rfl, HFF.out⟩
      · have d1 : decide ((ls.length : Int) ≤ (k : Int) + 1) = false := decide_eq_false (by omega)
        have hkl : k < ls.length := by omega
        obtain ⟨L, o, rfl, hcl⟩ := srw_get HSR.out hkl
        have hcap : ls.length ≤ lc := (srw_cap HSR.out).resolve_left (fun e => by rw [e] at hkl; simp at hkl)
        have hL := HLOW.out L o rfl
        have hcl2 : wr.cell? ⟨L, o + k, none⟩ = some (.string ls[k]) := (World.cell?_of_block (a := ⟨L, o + k, none⟩) (HST.out.block L (World.block_lt_of_cell? w3 _ hcl) (by omega))).trans hcl
        have hxz := HLZ.out _ (List.getElem_mem hkl)
        have hst2 : res = match lineP k (plWords.getD k []) (q.pl (ss.map txt)) (cutAt 32 (txt ls[k])) with | none => (plZero, k + 1, 4) | some q' => goPieces (plWords.drop (k + 1)) (k + 1) q' ((ls.map txt).drop (k + 1)) := by
          have e : (ls.map txt).drop k = txt ls[k] :: (ls.map txt).drop (k + 1) := by
            rw [List.drop_eq_getElem_cons (by rw [List.length_map]; exact hkl), List.getElem_map]
          rw [← HGO.out, HDR.out, e]
          exact pieces_step (by rw [ne_eq, ← List.length_eq_zero_iff, List.length_drop, List.length_map]; omega)
        have hcall : ∀ W, Below wr.heap.size wr W → Calls Tryz.prog 75 #[.agg (q.cells bv), .int .i64 ((k : Int) + 1), .string ls[k]] W (RetPL W bv ss (lineP k (plWords.getD k []) (q.pl (ss.map txt)) (cutAt 32 (txt ls[k])))) := fun W hW => plantLine_any (HROW.out.below hW) hxz hlt (fun e => HBN.out (by omega))
        obtain ⟨lr, hlr⟩ : ∃ lr, lr = lineP k (plWords.getD k []) (q.pl (ss.map txt)) (cutAt 32 (txt ls[k])) := ⟨_, rfl⟩
        have htok : ∀ p, lr = some p → ∀ b ∈ p.banned, b ≠ [] := fun p hp => line_tok (hlr.symm.trans hp) htk
        have hban : k < 2 → ∀ p, lr = some p → p.banned = [] := fun h p hp => by
          have h1 := hlr.symm.trans hp
          unfold lineP at h1
          split at h1
          · rw [readLine_banned h1 h]
            show ss.map txt = []
            rw [HBN.out (by omega)]
            rfl
          · cases h1
        have HTOK := Lib.hid htok
        have HBAN := Lib.hid hban
        rw [← hlr] at hst2 hcall
        obtain ⟨x, hx⟩ : ∃ x, x = ls[k] := ⟨_, rfl⟩
        rw [← hx] at hcl2 hcall
        have HC := Lib.hid hcall
        have HS2 := Lib.hid hst2
        clear htok hban htk hcall hst2 hlr hx hxz hcl HGO HDR hshort
        obtain ⟨cs0, hcs0⟩ : ∃ cs0, cs0 = q.cells bv := ⟨_, rfl⟩
        have hz0 : cs0.size = 19 := by rw [hcs0]; rfl
        rw [← hcs0] at HC hblk
        have HZ0 := Lib.hid hz0
        clear hcs0 hz0
        go_upto_region 8 with fail
        go_cut [8, 9] (fun v8 v9 wx => ∃ (R8 : Nat) (cs : Array Value), v8 = .pointer (some ⟨R8, 0, none⟩) ∧ v9 = .bool lr.isSome ∧ Blk wx R8 cs 35 ∧ CsOk wr bv ss lr cs wx ∧ Below wr.heap.size wr wx)
        case first =>
          obtain ⟨ks, hks⟩ : ∃ ks : List Kp, ks = [.is (.agg cs0), .is (.int .i64 ((k : Int) + 1)), .is (.slice (some ⟨L, o, none⟩) ls.length lc), .is (.int .i64 ((k : Int) + 1)), .is (.int .i64 (k : Int)), .is (.pointer (some ⟨L, o + k, none⟩)), .is (.string x), KRes wr bv ss lr, KRes wr bv ss lr, KAgg wr bv ss lr, .is (.bool lr.isSome), KBlk wr] := ⟨_, rfl⟩
          refine region_open ?_
          intro ops hops a0 ha0
          have hfine : fineOps2 ops a0.tmps.size = true := by rw [hops, ha0]; kernel_rfl
          have htail : tailOps2 ops 12 10 = true := by rw [hops]; kernel_rfl
          have nd5 : noDst ops 5 = true := by rw [hops]; kernel_rfl
          have nd6 : noDst ops 6 = true := by rw [hops]; kernel_rfl
          have nd7 : noDst ops 7 = true := by rw [hops]; kernel_rfl
          have e5 : a0.eval (.tmp 5) = .pointer (some ⟨w.heap.size + 1, 0, none⟩) := by rw [ha0]; rfl
          have e6 : a0.eval (.tmp 6) = .slice (some ⟨L, o, none⟩) ls.length lc := by rw [ha0]; rfl
          have e7 : a0.eval (.tmp 7) = .int .i64 ((k : Int) + 1) := by rw [ha0]; rfl
          have h0 : OpIs ops 0 (.load 35 (.tmp 5)) 23 [] := by rw [hops]; exact ⟨_, rfl, rfl, rfl, depsOk_spec (by kernel_rfl)⟩
          have h1 : OpIs ops 1 (.move (.tmp 7)) 24 [] := by rw [hops]; exact ⟨_, rfl, rfl, rfl, depsOk_spec (by kernel_rfl)⟩
          have h2 : OpIs ops 2 (.move (.tmp 6)) 25 [] := by rw [hops]; exact ⟨_, rfl, rfl, rfl, depsOk_spec (by kernel_rfl)⟩
          have h3 : OpIs ops 3 (.move (.tmp 7)) 26 [] := by rw [hops]; exact ⟨_, rfl, rfl, rfl, depsOk_spec (by kernel_rfl)⟩
          have h4 : OpIs ops 4 (.binOp .sub 3 (.tmp 26) (.const (.int .i64 1)) 3) 27 [3] := by rw [hops]; exact ⟨_, rfl, rfl, rfl, depsOk_spec (by kernel_rfl)⟩
          have h5 : OpIs ops 5 (.indexAddr 27 (.tmp 25) (.tmp 27)) 28 [2, 4] := by rw [hops]; exact ⟨_, rfl, rfl, rfl, depsOk_spec (by kernel_rfl)⟩
          have h6 : OpIs ops 6 (.load 9 (.tmp 28)) 29 [5] := by rw [hops]; exact ⟨_, rfl, rfl, rfl, depsOk_spec (by kernel_rfl)⟩
          have h7 : OpIs ops 7 (.call { callee := .value (.func 75), args := #[.tmp 23, .tmp 24, .tmp 29], argTypes := #[35, 3, 9] }) 30 [0, 1, 6] := by rw [hops]; exact ⟨_, rfl, rfl, rfl, depsOk_spec (by kernel_rfl)⟩
          have h8 : OpIs ops 8 (.move (.tmp 30)) 22 [7] := by rw [hops]; exact ⟨_, rfl, rfl, rfl, depsOk_spec (by kernel_rfl)⟩
          have h9 : OpIs ops 9 (.extract (.tmp 22) 0) 31 [8] := by rw [hops]; exact ⟨_, rfl, rfl, rfl, depsOk_spec (by kernel_rfl)⟩
          have h10 : OpIs ops 10 (.extract (.tmp 22) 1) 32 [8] := by rw [hops]; exact ⟨_, rfl, rfl, rfl, depsOk_spec (by kernel_rfl)⟩
          have h11 : OpIs ops 11 (.alloc 35) 8 [] := by rw [hops]; exact ⟨_, rfl, rfl, rfl, depsOk_spec (by kernel_rfl)⟩
          have hsize : ops.size = 14 := by rw [hops]; rfl
          refine wp_region_mdt2 12 10 follows_mixed hfine htail (GK ks) (GK.stable ks) ?_ ?_ ?_
          · have hfix : ∀ (i : Nat) (u : Value), ks[i]? = some (.is u) → ∀ v w', GK ks i v w' → v = u := fun i u hi v w' h => by
              have h' : (ks.getD i Kp.any).p v w' := h
              rw [List.getD_eq_getElem?_getD, hi] at h'
              exact h'
            have put : ∀ (i : Nat) (u : Value), ks[i]? = some (.is u) → ∀ w', GK ks i u w' := fun i u hi w' => by
              show (ks.getD i Kp.any).p u w'
              rw [List.getD_eq_getElem?_getD, hi]
              rfl
            have gk : ∀ (i : Nat) (u : Kp), ks[i]? = some u → GK ks i = u.p := fun i u hi => by
              show (ks.getD i Kp.any).p = u.p
              rw [List.getD_eq_getElem?_getD, hi]
              rfl
            have k0 : ks[0]? = some (.is (.agg cs0)) := by rw [hks]; rfl
            have k1 : ks[1]? = some (.is (.int .i64 ((k : Int) + 1))) := by rw [hks]; rfl
            have k2 : ks[2]? = some (.is (.slice (some ⟨L, o, none⟩) ls.length lc)) := by rw [hks]; rfl
            have k3 : ks[3]? = some (.is (.int .i64 ((k : Int) + 1))) := by rw [hks]; rfl
            have k4 : ks[4]? = some (.is (.int .i64 (k : Int))) := by rw [hks]; rfl
            have k5 : ks[5]? = some (.is (.pointer (some ⟨L, o + k, none⟩))) := by rw [hks]; rfl
            have k6 : ks[6]? = some (.is (.string x)) := by rw [hks]; rfl
            have k7 : ks[7]? = some (KRes wr bv ss lr) := by rw [hks]; rfl
            have k8 : ks[8]? = some (KRes wr bv ss lr) := by rw [hks]; rfl
            have k9 : ks[9]? = some (KAgg wr bv ss lr) := by rw [hks]; rfl
            have k10 : ks[10]? = some (.is (.bool lr.isSome)) := by rw [hks]; rfl
            have k11 : ks[11]? = some (KBlk wr) := by rw [hks]; rfl
            have q0 : ∀ Q, OkG Tryz.prog ops Q (GK ks) a0 wr 0 := fun Q => okG_val h0 (fun ρ => Instr.loadAt 35 (ρ (.tmp 5))) (fun ρ o ho => by unfold execOp; rw [ho]) fun a w' hc => by
              rw [hc.out 5 nd5, e5]
              exact ⟨_, w', pl_load (hblk.below hc.below) HZ0.out, put 0 _ k0 _, Below.refl _ _⟩
            have q1 : ∀ Q, OkG Tryz.prog ops Q (GK ks) a0 wr 1 := fun Q => okG_move h1 (.inl rfl) fun a w' hc => by rw [hc.out 7 nd7, e7]; exact put 1 _ k1 _
            have q2 : ∀ Q, OkG Tryz.prog ops Q (GK ks) a0 wr 2 := fun Q => okG_move h2 (.inl rfl) fun a w' hc => by rw [hc.out 6 nd6, e6]; exact put 2 _ k2 _
            have q3 : ∀ Q, OkG Tryz.prog ops Q (GK ks) a0 wr 3 := fun Q => okG_move h3 (.inl rfl) fun a w' hc => by rw [hc.out 7 nd7, e7]; exact put 3 _ k3 _
            have q4 : ∀ Q, OkG Tryz.prog ops Q (GK ks) a0 wr 4 := fun Q => okG_val h4 (fun ρ => do eqGuard .sub 3 (.tmp 26) (.const (.int .i64 1)) (ρ (.tmp 26)) (ρ (.const (.int .i64 1))); binOp .sub 3 (ρ (.tmp 26)) (ρ (.const (.int .i64 1)))) (fun ρ o ho => by unfold execOp; rw [ho]) fun a w' hc => by
              rw [hfix 3 _ k3 _ _ (hc.get (by simp) h3), eval_const]
              have hm : (k : Int) + 1 - 1 = (k : Int) := by omega
              have := sub_run ((k : Int) + 1) 1 (.tmp 26) (.const (.int .i64 1)) w' ⟨by omega, by omega⟩
              rw [hm] at this
              exact ⟨_, w', this, put 4 _ k4 _, Below.refl _ _⟩
            have q5 : ∀ Q, OkG Tryz.prog ops Q (GK ks) a0 wr 5 := fun Q => okG_val h5 (fun ρ => Instr.indexAt 27 (ρ (.tmp 25)) (ρ (.tmp 27))) (fun ρ o ho => by unfold execOp; rw [ho]) fun a w' hc => by
              rw [hfix 2 _ k2 _ _ (hc.get (by simp) h2), hfix 4 _ k4 _ _ (hc.get (by simp) h4)]
              exact ⟨_, w', idx27 hkl w', put 5 _ k5 _, Below.refl _ _⟩
            have q6 : ∀ Q, OkG Tryz.prog ops Q (GK ks) a0 wr 6 := fun Q => okG_val h6 (fun ρ => Instr.loadAt 9 (ρ (.tmp 28))) (fun ρ o ho => by unfold execOp; rw [ho]) fun a w' hc => by
              rw [hfix 5 _ k5 _ _ (hc.get (by simp) h5)]
              exact ⟨_, w', ld9 _ _ _ _ (cell_below hcl2 hc.below), put 6 _ k6 _, Below.refl _ _⟩
            have q7 : ∀ Q, OkG Tryz.prog ops Q (GK ks) a0 wr 7 := fun Q => okG_call h7 fun o a w' ho hc => ⟨_, ent3 (enters_of Tryz.func75 (by kernel_rfl) rfl) _ _ _ _ a o w' ho, by
              rw [hfix 0 _ k0 _ _ (hc.get (by simp) h0), hfix 1 _ k1 _ _ (hc.get (by simp) h1), hfix 6 _ k6 _ _ (hc.get (by simp) h6), gk 7 _ k7]
              exact (HC.out w' hc.below).mono fun e w'' h => res_keep hc.below h⟩
            have q8 : ∀ Q, OkG Tryz.prog ops Q (GK ks) a0 wr 8 := fun Q => okG_move h8 (.inl rfl) fun a w' hc => by
              have := hc.get (by simp) h7
              rw [gk 7 _ k7] at this
              rw [gk 8 _ k8]; exact this
            have q9 : ∀ Q, OkG Tryz.prog ops Q (GK ks) a0 wr 9 := fun Q => okG_val h9 (fun ρ => Instr.extract (ρ (.tmp 22)) 0) (fun ρ o ho => by unfold execOp; rw [ho]) fun a w' hc => by
              have := hc.get (by simp) h8
              rw [gk 8 _ k8] at this
              obtain ⟨cs, e, h⟩ := this
              rw [e, gk 9 _ k9]
              exact ⟨_, w', tup0 _ _ w', ⟨cs, rfl, h⟩, Below.refl _ _⟩
            have q10 : ∀ Q, OkG Tryz.prog ops Q (GK ks) a0 wr 10 := fun Q => okG_val h10 (fun ρ => Instr.extract (ρ (.tmp 22)) 1) (fun ρ o ho => by unfold execOp; rw [ho]) fun a w' hc => by
              have := hc.get (by simp) h8
              rw [gk 8 _ k8] at this
              obtain ⟨cs, e, h⟩ := this
              rw [e]
              exact ⟨_, w', tup1 _ _ w', put 10 _ k10 _, Below.refl _ _⟩
            have q11 : ∀ Q, OkG Tryz.prog ops Q (GK ks) a0 wr 11 := fun Q => okG_val h11 (fun ρ => Instr.alloc 35 true (.tuple #[])) (fun ρ o ho => by unfold execOp; rw [ho]) fun a w' hc => by
              rw [gk 11 _ k11]
              exact ⟨_, _, zero35 w', ⟨w'.heap.size, rfl, Blk.new w' _ _, hc.below.size⟩, (Below.refl _ _).alloc (Nat.le_refl _) _⟩
            intro i o hi ho
            match i, hi with
            | 0, _ => exact q0 _ o ho
            | 1, _ => exact q1 _ o ho
            | 2, _ => exact q2 _ o ho
            | 3, _ => exact q3 _ o ho
            | 4, _ => exact q4 _ o ho
            | 5, _ => exact q5 _ o ho
            | 6, _ => exact q6 _ o ho
            | 7, _ => exact q7 _ o ho
            | 8, _ => exact q8 _ o ho
            | 9, _ => exact q9 _ o ho
            | 10, _ => exact q10 _ o ho
            | 11, _ => exact q11 _ o ho
            | n + 12, h => exact absurd h (by omega)
          · intro vals w4 b4 hsaid
            have g9 := hsaid 9 (by decide)
            have g11 := hsaid 11 (by decide)
            rw [hks] at g9 g11
            obtain ⟨cs, ev9, hcr⟩ : (KAgg wr bv ss lr).p (vals 9) w4 := g9
            obtain ⟨R8, ev11, B8, hR8⟩ : (KBlk wr).p (vals 11) w4 := g11
            have ev10 : vals 10 = .bool lr.isSome := by have g := hsaid 10 (by decide); rw [hks] at g; exact g
            rw [hsize]
            simp only [laid, h0.dst, h1.dst, h2.dst, h3.dst, h4.dst, h5.dst, h6.dst, h7.dst, h8.dst, h9.dst, h10.dst, h11.dst, ha0, Act.put, Nat.reduceLT, decide_true, decide_false, if_true, if_false, Bool.false_eq_true, Bool.and_true, Bool.and_false, Bool.false_and, Bool.true_and, ne_eq, not_true_eq_false, not_false_eq_true, Nat.reduceEqDiff]
            simp only [List.setIfInBounds_toArray, List.set_cons_succ, List.set_cons_zero]
            rw [ev9, ev10, ev11, hops]
            change wpList _ _ _ [_, _] _ _
            have s5 := setRow_stays w4 R8 cs
            have b5 : Below wr.heap.size wr (w4.setRow R8 cs) := b4.trans (s5.below b4.size (fun j hj e => by have e' : j = R8 := e; omega))
            have B5 := setRow_heap w4 R8 _ cs 35 B8
            have hst8 := blk_store (c' := cs) B8 (by rw [size35', hcr.1]) (by rw [hcr.1]; rfl) hcr.2.1
            have hcr5 := cs_store hcr B8 HTOK.out
            obtain ⟨w5, hw5⟩ : ∃ w5, w5 = w4.setRow R8 cs := ⟨_, rfl⟩
            rw [← hw5] at B5 b5 hst8 hcr5
            have HST8 := Lib.hid hst8
            have HEND := Lib.hid (show ∃ (R8 : Nat) (cs : Array Value), Value.pointer (some ⟨R8, 0, none⟩) = .pointer (some ⟨R8, 0, none⟩) ∧ Blk w5 R8 cs 35 ∧ CsOk wr bv ss lr cs w5 ∧ Below wr.heap.size wr w5 from ⟨R8, cs, rfl, B5, hcr5, b5⟩)
            have HB5 := Lib.hid B5
            have HC5 := Lib.hid hcr5
            have HBB := Lib.hid b5
            clear ha0 h0 h1 h2 h3 h4 h5 h6 h7 h8 h9 h10 h11 hfine htail nd5 nd6 nd7 e5 e6 e7 hsaid hks B8 hst8 hcr hw5 s5 b4 b5 B5 hcr5 HEND hcl2 hblk hDr
            go_wp2_with (first | (refine wpList_unit (o := ⟨none, Op.store 35 (.tmp 8) _, _, _, _, _⟩) rfl rfl (Instr.storeAt 35 _ _) rfl HST8.out ?_) | fail)
            go_meet
            exact ⟨R8, cs, rfl, rfl, HB5.out, HC5.out, HBB.out⟩
          · intro vals w4 b4 hsaid
            have g9 := hsaid 9 (by decide) (by decide)
            have g11 := hsaid 11 (by decide) (by decide)
            rw [hks] at g9 g11
            obtain ⟨cs, ev9, hcr⟩ : (KAgg wr bv ss lr).p (vals 9) w4 := g9
            obtain ⟨R8, ev11, B8, hR8⟩ : (KBlk wr).p (vals 11) w4 := g11
            obtain ⟨cs2, ev8, _⟩ : (KRes wr bv ss lr).p (vals 8) w4 := by have g := hsaid 8 (by decide) (by decide); rw [hks] at g; exact g
            obtain ⟨o12, e12⟩ : ∃ o, ops[12]? = some o := ⟨ops[12]'(by rw [hsize]; decide), Array.getElem?_eq_getElem _⟩
            obtain ⟨o10, e10⟩ : ∃ o, ops[10]? = some o := ⟨ops[10]'(by rw [hsize]; decide), Array.getElem?_eq_getElem _⟩
            obtain ⟨o13, e13⟩ : ∃ o, ops[13]? = some o := ⟨ops[13]'(by rw [hsize]; decide), Array.getElem?_eq_getElem _⟩
            refine ⟨o12, [o10, o13], e12, by rw [hsize]; rfl, fun j => ?_, ?_⟩
            · rw [hsize]
              match j with
              | 0 => exact e10.symm
              | 1 => exact e13.symm
              | n + 2 => rfl
            rw [hops] at e10 e12 e13
            change some _ = some _ at e10
            change some _ = some _ at e12
            change some _ = some _ at e13
            injection e10 with e10
            injection e12 with e12
            injection e13 with e13
            subst e10 e12 e13
            rw [hsize]
            simp only [laid, h0.dst, h1.dst, h2.dst, h3.dst, h4.dst, h5.dst, h6.dst, h7.dst, h8.dst, h9.dst, h10.dst, h11.dst, ha0, Act.put, Nat.reduceLT, decide_true, decide_false, if_true, if_false, Bool.false_eq_true, Bool.and_true, Bool.and_false, Bool.false_and, Bool.true_and, ne_eq, not_true_eq_false, not_false_eq_true, Nat.reduceEqDiff]
            simp only [List.setIfInBounds_toArray, List.set_cons_succ, List.set_cons_zero]
            rw [ev9, ev8, ev11, hops]
            have s5 := setRow_stays w4 R8 cs
            have b5 : Below wr.heap.size wr (w4.setRow R8 cs) := b4.trans (s5.below b4.size (fun j hj e => by have e' : j = R8 := e; omega))
            have B5 := setRow_heap w4 R8 _ cs 35 B8
            have hst8 := blk_store (c' := cs) B8 (by rw [size35', hcr.1]) (by rw [hcr.1]; rfl) hcr.2.1
            have hcr5 := cs_store hcr B8 HTOK.out
            obtain ⟨w5, hw5⟩ : ∃ w5, w5 = w4.setRow R8 cs := ⟨_, rfl⟩
            rw [← hw5] at B5 b5 hst8 hcr5
            have HST8 := Lib.hid hst8
            have HEND := Lib.hid (show ∃ (R8 : Nat) (cs : Array Value), Value.pointer (some ⟨R8, 0, none⟩) = .pointer (some ⟨R8, 0, none⟩) ∧ Blk w5 R8 cs 35 ∧ CsOk wr bv ss lr cs w5 ∧ Below wr.heap.size wr w5 from ⟨R8, cs, rfl, B5, hcr5, b5⟩)
            have HB5 := Lib.hid B5
            have HC5 := Lib.hid hcr5
            have HBB := Lib.hid b5
            clear ha0 h0 h1 h2 h3 h4 h5 h6 h7 h8 h9 h10 h11 hfine htail nd5 nd6 nd7 e5 e6 e7 hsaid hks B8 hst8 hcr hw5 s5 b4 b5 B5 hcr5 HEND hcl2 hblk hDr
            go_wp2_with (first | (refine wpList_unit (o := ⟨none, Op.store 35 (.tmp 8) _, _, _, _, _⟩) rfl rfl (Instr.storeAt 35 _ _) rfl HST8.out ?_) | fail)
            go_meet
            exact ⟨R8, cs, rfl, rfl, HB5.out, HC5.out, HBB.out⟩
        case rest =>
        obtain ⟨R8, cs, rfl, rfl, B5, hcs5, b5⟩ := hcut
        obtain ⟨w5, hw5⟩ : ∃ w5, w5 = wc := ⟨_, rfl⟩
        rw [← hw5] at B5 hcs5 b5 ⊢
        have hRR : w.heap.size + 1 < wr.heap.size := hblk.lt
        have T5 := hblk.below b5
        have D5 := hDr.below b5
        have HCR := Lib.hid hcs5.2.2
        have HCZ := Lib.hid hcs5.1
        have HCO := Lib.hid hcs5.2.1
        have HB5 := Lib.hid b5
        clear hcs5 hw5 hcl2 b5 hblk hDr
        cases lr with
        | none =>
          have hr : res = (plZero, k + 1, 4) := HS2.out
          have HFF := Lib.hid (HFAIL.out hr w5 HB5.out)
          clear hr HFAIL HS2
          go_wp2_with (first | (refine wpList_unit (o := ⟨none, Op.store 35 (.tmp 2) _, _, _, _, _⟩) rfl rfl (Instr.storeAt 35 _ _) rfl (blk_store (c' := PV.zero.cells (.slice none 0 0)) D5 size35' rfl rfl) ?_) | fail)
          exact ⟨rfl, _, results40_any (setRow_heap w5 w.heap.size _ (PV.zero.cells (.slice none 0 0)) 35 D5) rfl rfl rfl rfl, HFF.out⟩
        | some p =>
          have hr := HS2.out
          simp only at hr
          obtain ⟨q', bv', ss', hcq, hsr5, hpl, hloc⟩ := HCR.out p rfl
          have hbt : ∀ b ∈ ss'.map txt, b ≠ [] := by
            have h1 : (q'.pl (ss'.map txt)).banned = ss'.map txt := rfl
            rw [← h1, hpl]
            exact HTOK.out p rfl
          have hlo : ∀ L' o' m c, bv' = .slice (some ⟨L', o', none⟩) m c → ss' ≠ [] → w2.heap.size ≤ L' := fun L' o' m c e h => by
            rcases hloc with ⟨h1, h2⟩ | h1
            · subst h1; subst h2; exact HNE.out L' o' m c e h
            · have := h1 L' o' m c e h
              omega
          have s6 := setRow_stays w5 (w.heap.size + 1) cs
          have hsr6 : SRw (w5.setRow (w.heap.size + 1) cs) bv' ss' := srw_stays hsr5 s6 (fun L' o' m c e h e' => by have e' : L' = w.heap.size + 1 := e'; have := hlo L' o' m c e h; omega)
          have B6 := setRow_heap w5 (w.heap.size + 1) _ cs 35 T5
          have hst6 := blk_store (c' := cs) T5 (by rw [size35', HCZ.out]) (by rw [HCZ.out, HZ0.out]) HCO.out
          have st6 : Stays (fun j => j = w.heap.size + 1) w3 (w5.setRow (w.heap.size + 1) cs) := (HST.out.next HB5.out).trans s6
          obtain ⟨w6, hw6⟩ : ∃ w6, w6 = w5.setRow (w.heap.size + 1) cs := ⟨_, rfl⟩
          rw [← hw6] at hsr6 B6 hst6 st6
          have hb2 : k + 1 ≤ 2 → ss' = [] := fun h => by
            have h1 : (q'.pl (ss'.map txt)).banned = ss'.map txt := rfl
            have h2 : p.banned = [] := HBAN.out (by omega) p rfl
            rw [hpl, h2] at h1
            exact List.map_eq_nil_iff.1 h1.symm
          have HST6 := Lib.hid hst6
          have HREL := Lib.hid (show Blk w6 (w.heap.size + 1) (q'.cells bv') 35 ∧ SRw w6 bv' ss' ∧ (∀ L o m c, bv' = .slice (some ⟨L, o, none⟩) m c → ss' ≠ [] → w2.heap.size ≤ L) ∧ goPieces (plWords.drop (k + 1)) (k + 1) (q'.pl (ss'.map txt)) ((ls.map txt).drop (k + 1)) = res ∧ Stays (fun j => j = w.heap.size + 1) w3 w6 ∧ (k + 1 ≤ 2 → ss' = []) ∧ (∀ b ∈ ss'.map txt, b ≠ []) from ⟨by rw [← hcq]; exact B6, hsr6, hlo, by rw [hpl]; exact hr.symm, st6, hb2, hbt⟩)
          have hz' := HCZ.out
          clear hr HFAIL HS2 hpl hloc hbt hlo hsr5 s6 hsr6 B6 hst6 st6 hw6 hb2 hcq hz' T5 D5
          go_wp2_with (first | (refine wpList_val (o := ⟨some 37, Op.load 35 _, _, _, _, _⟩) rfl (Instr.loadAt 35 _) rfl _ (pl_load B5 HCZ.out) ?_) | (refine wpList_unit (o := ⟨none, Op.store 35 (.tmp 5) _, _, _, _, _⟩) rfl rfl (Instr.storeAt 35 _ _) rfl HST6.out ?_) | fail)
          go_roundw
          case rel => exact ⟨k + 1, q', bv', ss', by go_num, by omega, HREL.out⟩
          case measure => simp [intOf]; omega
    · have hk13 : k = 13 := by omega
      subst hk13
      have hgo : res = if (ls.map txt).drop 13 = [[]] then (q.pl (ss.map txt), 0, 0) else (plZero, 13 + 1, 4) := HGO.out.symm
      have HG := Lib.hid hgo
      clear hgo HGO hlt
      by_cases h14 : ls.length = 14
      rotate_left
      · have d1 : ((ls.length : Int) != 14) = true := by simp; omega
        have hr : res = (plZero, 13 + 1, 4) := by
          rw [HG.out, if_neg]
          intro e
          have := congrArg List.length e
          simp at this
          omega
        have HFF := Lib.hid (HFAIL.out hr wr (Below.refl _ _))
        clear hr HFAIL HG
        go_wp2_with (refine wpList_unit (o := ⟨none, Op.store 35 (.tmp 2) _, _, _, _, _⟩) rfl rfl (Instr.storeAt 35 _ _) rfl (blk_store (c' := PV.zero.cells (.slice none 0 0)) hDr size35' rfl rfl) ?_)
        exact ⟨rfl, _, results40_any (setRow_heap wr w.heap.size _ (PV.zero.cells (.slice none 0 0)) 35 hDr) rfl rfl rfl rfl, HFF.out⟩
      have d1 : ((ls.length : Int) != 14) = false := by simp [h14]
      have hkl : 13 < ls.length := by omega
      obtain ⟨L, o, rfl, hcl⟩ := srw_get HSR.out hkl
      have hcap : ls.length ≤ lc := (srw_cap HSR.out).resolve_left (fun e => by rw [e] at hkl; simp at hkl)
      have hL := HLOW.out L o rfl
      have hcl2 : wr.cell? ⟨L, o + 13, none⟩ = some (.string ls[13]) := (World.cell?_of_block (a := ⟨L, o + 13, none⟩) (HST.out.block L (World.block_lt_of_cell? w3 _ hcl) (by omega))).trans hcl
      have hdrop : (ls.map txt).drop 13 = [txt ls[13]] := by
        rw [List.drop_eq_getElem_cons (by rw [List.length_map]; exact hkl), List.getElem_map, List.drop_of_length_le (by rw [List.length_map]; omega)]
      have hg := HG.out
      rw [hdrop] at hg
      obtain ⟨x, hx⟩ : ∃ x, x = ls[13] := ⟨_, rfl⟩
      rw [← hx] at hcl2 hg
      have HG2 := Lib.hid hg
      clear hg hdrop HG hcl hx
      by_cases h0 : txt x = []
      · have d0 : (x.toList == []) = true := by rw [ByteArray.toList_eq]; exact beq_iff_eq.2 h0
        have d2 : x.toList.isEmpty = true := by rw [ByteArray.toList_eq]; exact List.isEmpty_iff.2 h0
        have hr : res = (q.pl (ss.map txt), 0, 0) := by rw [HG2.out, if_pos (by rw [h0])]
        subst hr
        obtain ⟨ba, bc, rfl⟩ := HROW.out.form
        have hb4 := HBW.out
        have hb9 := hb4.trans ((setRow_stays wr w.heap.size (q.cells (.slice ba ss.length bc))).below hb4.size (fun j hj e => by have e' : j = w.heap.size := e; omega))
        have hr9 : SRw (wr.setRow w.heap.size (q.cells (.slice ba ss.length bc))) (.slice ba ss.length bc) ss := srw_stays HROW.out (setRow_stays wr w.heap.size _) (fun L o m' c h h0 e => by
          have e : L = w.heap.size := e
          have := HNE.out L o m' c h h0
          omega)
        have hD9 := setRow_heap wr w.heap.size _ (q.cells (.slice ba ss.length bc)) 35 hDr
        have HH := Lib.hid (And.intro hb9 hr9)
        have D2 := Lib.hid d2
        clear h0 HG2 HFAIL hb9 hr9 d2
        go_wp2_with (first | (refine wpList_val (o := ⟨some 48, Op.load 35 _, _, _, _, _⟩) rfl (Instr.loadAt 35 _) rfl _ (pl_load hblk rfl) ?_) | (refine wpList_unit (o := ⟨none, Op.store 35 (.tmp 2) _, _, _, _, _⟩) rfl rfl (Instr.storeAt 35 _ _) rfl (blk_store (c' := q.cells (.slice ba ss.length bc)) hDr size35' rfl rfl) ?_) | fail)
        exact ⟨rfl, .tuple #[.agg (q.cells (.slice ba ss.length bc)), .int .i64 ((0 : Nat) : Int), .int .i64 0], results40_any hD9 rfl rfl rfl rfl, HH.out.1, q, .slice ba ss.length bc, ss, rfl, HH.out.2, rfl⟩
      · have d0 : (x.toList == []) = false := by rw [ByteArray.toList_eq]; exact beq_eq_false_iff_ne.2 h0
        have d2 : x.toList.isEmpty = false := by rw [ByteArray.toList_eq, List.isEmpty_eq_false_iff]; exact h0
        have hr : res = (plZero, 13 + 1, 4) := by
          rw [HG2.out, if_neg]
          intro e
          injection e with e _
          exact h0 e
        have HFF := Lib.hid (HFAIL.out hr wr (Below.refl _ _))
        clear hr HFAIL HG2 h0
        go_wp2_with (refine wpList_unit (o := ⟨none, Op.store 35 (.tmp 2) _, _, _, _, _⟩) rfl rfl (Instr.storeAt 35 _ _) rfl (blk_store (c' := PV.zero.cells (.slice none 0 0)) hDr size35' rfl rfl) ?_)
        exact ⟨rfl, _, results40_any (setRow_heap wr w.heap.size _ (PV.zero.cells (.slice none 0 0)) 35 hDr) rfl rfl rfl rfl, HFF.out⟩
end Go.Proofs.YtddnmocoaahlfaaGreatDoor
