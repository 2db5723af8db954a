/-
  What ParseEvent's walk uses: the search for an event's word, rows without their last one, an event's block. No condition but that the table of the kinds of events is laid.
  ParseEvent. Conditions: the package-level variables hold what the program lays; lines of at most 65536 bytes.
-/
import Derived.Test.YtddnmocoaahlfaaGreatDoorZr
import Derived.BigQuiet
set_option linter.unusedVariables false
set_option linter.unusedSimpArgs false

namespace Go.Proofs.YtddnmocoaahlfaaGreatDoor
open Go.RowKit Go.Shelf
theorem enters50 (args : Array Value) (w : World) : (callFunc 50 args).run Tryz.prog w = .ok (.enter 50 args) w := enters_of Tryz.func50 (by kernel_rfl) rfl args w
theorem evOf_le (t : List UInt8) : evOfL t ≤ 25 := by
  unfold evOfL
  cases h : evWords.findIdx? (fun x => x.1 == t) with
  | none => simp
  | some k =>
    have := (List.findIdx?_eq_some_iff_getElem.1 h).1
    have h25 : evWords.length = 25 := rfl
    simp
    omega
theorem ev_find (t : List UInt8) : Lib.idxBy (fun _ (y : List UInt8 × Nat × Bool) => y.1 == t) (evWords.take 25) default + 1 = (evOfL t : Int) := by
  unfold Lib.idxBy
  rw [idx_find (fun y : List UInt8 × Nat × Bool => y.1 == t) (evWords.take 25) 0]
  have : evWords.take 25 = evWords := rfl
  rw [this]
  unfold evOfL
  cases evWords.findIdx? (fun x => x.1 == t) with
  | none => rfl
  | some k => simp
set_option maxRecDepth 100000 in
theorem isEv_any {W : World} {S g m c : Nat} {s : ByteArray} (hS : W.cell? ⟨S, 0, none⟩ = some (.slice (some ⟨g, 0, none⟩) (m + 1) c)) (hg : W.cell? ⟨g, 0, none⟩ = some (.string s)) (f : List UInt8 × Nat × Bool) :
    Calls Tryz.prog 50 #[.agg (evV f).toArray, .pointer (some ⟨S, 0, none⟩)] W (fun e w' => e = .returned (.bool (f.1 == txt s)) ∧ Below W.heap.size W w') := by
  obtain ⟨f1, f2, f3⟩ := f
  unfold evV
  have hlt := World.block_lt_of_cell? W _ hS
  have hlt2 := World.block_lt_of_cell? W _ hg
  have b1 : Below W.heap.size W (W.alloc (.cells #[.string ⟨f1.toArray⟩, .int .i64 f2, .bool f3] 84)) := (Below.refl _ W).alloc (Nat.le_refl _) _
  have hS1 := cell_below hS b1
  have hg1 := cell_below hg b1
  go_enter Tryz.func50, Tryz.ntmps50
  go_wp2_with fail
  go_quiet (fail)
  go_wp2_with fail
  go_ret
  exact ⟨by rw [ByteArray.toList_eq]; rfl, b1.trans ((drewN_below _ _).mono b1.size)⟩
/-- The search for the word of an event. -/
theorem evIdx_any {w : World} (hev : Evs w) {S g m c : Nat} {s : ByteArray} (hS : w.cell? ⟨S, 0, none⟩ = some (.slice (some ⟨g, 0, none⟩) (m + 1) c)) (hg : w.cell? ⟨g, 0, none⟩ = some (.string s)) :
    ∃ ix : Int, (ix + 1 = (evOfL (txt s) : Int)) ∧ Calls Tryz.prog 49 #[.slice (some ⟨1, 0, none⟩) 25 25, .func (.func 50) #[] #[.pointer (some ⟨S, 0, none⟩)]] w (RetV w (.int .i64 ix)) := by
  have H := AnyQ.slices_IndexFunc lays49 3 (fun w => by kernel_rfl) (fun w => by kernel_rfl) evV (fun x => rfl) (fun y => y.1 == txt s) 50 #[.pointer (some ⟨S, 0, none⟩)] enters50 1 0 25 25 evWords w
    (fun W x hW => (isEv_any (cell_below hS hW) (cell_below hg hW) x).mono fun e w' ⟨h1, h2⟩ => ⟨h1, hW.trans (h2.mono hW.size)⟩) (by decide) (by decide) hev.1 hev.2
  refine ⟨_, ev_find (txt s), H.mono ?_⟩
  rintro e w' ⟨rfl, h⟩
  exact ⟨rfl, h⟩
/-- What is read behind the word of an event. -/
def evRes (k n : Nat) (tk : Bool) (us : List (List UInt8)) : Ev3 × Int :=
  if tk then
    if us = [] then (evZero, 4)
    else if isTokL (us.getLastD []) then
      match undecAllL us.dropLast with
      | none => (evZero, 4)
      | some l => if l.length = n then (⟨k, (l ++ [0, 0, 0]).take 3, us.getLastD []⟩, 0) else (evZero, 4)
    else (evZero, 4)
  else match undecAllL us with
    | none => (evZero, 4)
    | some l => if l.length = n then (⟨k, (l ++ [0, 0, 0]).take 3, []⟩, 0) else (evZero, 4)
theorem parseEv_res {k : Nat} (h0 : k ≠ 0) (us : List (List UInt8)) : parseEv k us = evRes k (evNums k) (evTok k) us := by unfold parseEv evRes; rw [if_neg h0]; rfl
/-- A row of strings without its last one. -/
theorem init27 (a : Addr) (m c : Nat) (hc : m + 1 ≤ c) (w : World) : (Instr.sliceAt 27 (.slice (some a) (m + 1) c) none (some (.int .i64 (m : Nat))) none).run Tryz.prog w = .ok (.slice (some a) m c) w := by
  rw [run_sliceAt_slice w 27 _ _ _ _ elem27, run_slice_h w 27 _ _ _ elem27 _ _ (by omega) (by omega), elemz27]
  simp [Result.andThen, sliced, Addr.add]
theorem size26 : (Tryz.prog.info? 26).map (·.size) = some 5 := by kernel_rfl
theorem ev_cells {w : World} {R : Nat} {k a b c : Int} {s : ByteArray} (h : Blk w R #[.int .i64 k, .int .i64 a, .int .i64 b, .int .i64 c, .string s] 26) :
    w.cell? ⟨R, 0, none⟩ = some (.int .i64 k) ∧ w.cell? ⟨R, 1, none⟩ = some (.int .i64 a) ∧ w.cell? ⟨R, 2, none⟩ = some (.int .i64 b) ∧ w.cell? ⟨R, 3, none⟩ = some (.int .i64 c) ∧ w.cell? ⟨R, 4, none⟩ = some (.string s) :=
  ⟨(h.cell 0).trans rfl, (h.cell 1).trans rfl, (h.cell 2).trans rfl, (h.cell 3).trans rfl, (h.cell 4).trans rfl⟩
/-- It returns this event and this error. -/
def RetEv (w : World) (r : Ev3 × Int) (e : Ending) (w' : World) : Prop := Below w.heap.size w w' ∧ ∃ (a b c : Int) (s : ByteArray), e = .returned (.tuple #[evA r.1.kind a b c s, .int .i64 r.2]) ∧ r.1.f = [a, b, c] ∧ txt s = r.1.text
theorem srw_last {w : World} {p : Option Addr} {m c : Nat} {st : List ByteArray} (h : SRw w (.slice p m c) st) (h0 : st ≠ []) : ∃ (L o n : Nat) (x : ByteArray), p = some ⟨L, o, none⟩ ∧ m = n + 1 ∧ n + 1 ≤ c ∧ st = st.dropLast ++ [x] ∧ st.dropLast.length = n ∧ w.cell? ⟨L, o + n, none⟩ = some (.string x) ∧ SRw w (.slice p n c) st.dropLast := by
  rcases h with ⟨h, _⟩ | ⟨_, L, o, c', h1, h2, h3⟩
  · exact absurd h h0
  · injection h1 with h1 hm hc
    subst h1
    subst hc
    have hlen : st.length = (st.length - 1) + 1 := by have := List.length_pos_iff.2 h0; omega
    refine ⟨L, o, st.length - 1, st.getLast h0, rfl, by omega, by omega, (List.dropLast_concat_getLast h0).symm, by simp, ?_, ?_⟩
    · rw [h3 (st.length - 1) (by omega), List.getLast_eq_getElem]
    · by_cases hd : st.dropLast = []
      · refine .inl ⟨hd, some ⟨L, o, none⟩, c, ?_⟩
        have : st.dropLast.length = 0 := by rw [hd]; rfl
        rw [List.length_dropLast] at this
        rw [this]
      · refine .inr ⟨hd, L, o, c, by simp, by simp; omega, fun j hj => ?_⟩
        rw [List.length_dropLast] at hj
        rw [h3 j (by omega), List.getElem_dropLast]
end Go.Proofs.YtddnmocoaahlfaaGreatDoor
namespace Go.Proofs.YtddnmocoaahlfaaGreatDoor
open Go.RowKit Go.Shelf
theorem SRw.stays {F : Nat → Prop} {w w' : World} {v : Value} {ss : List ByteArray} (h : SRw w v ss) (hs : Stays F w w') (hF : ∀ L o c n, v = .slice (some ⟨L, o, none⟩) n c → ss ≠ [] → ¬ F L) : SRw w' v ss := by
  rcases h with h | ⟨h0, L, o, c, h1, h2, h3⟩
  · exact .inl h
  · exact .inr ⟨h0, L, o, c, h1, h2, fun i hi => (World.cell?_of_block (a := ⟨L, o + i, none⟩) (hs.block L (World.block_lt_of_cell? w _ (h3 i hi)) (hF _ _ _ _ h1 h0))).trans (h3 i hi)⟩
set_option maxRecDepth 100000 in
set_option maxHeartbeats 4000000 in
theorem parseEvP_any {w : World} (he : Env w) (hev : Evs w) (s : ByteArray) (hs : s.size ≤ 65536) : Calls Tryz.prog 24 #[.string s] w (RetEv w (parseEvT (txt s))) := by
  have hmf := hmakef
  obtain ⟨w1, hw1⟩ : ∃ w1, w1 = w.alloc (.cells #[.int .i64 0, .int .i64 0, .int .i64 0, .int .i64 0, .string ⟨#[]⟩] 26) := ⟨_, rfl⟩
  have l1 : Below w.heap.size w w1 := by rw [hw1]; exact (Below.refl _ _).alloc (Nat.le_refl _) _
  have bR : Blk w1 w.heap.size #[.int .i64 0, .int .i64 0, .int .i64 0, .int .i64 0, .string ⟨#[]⟩] 26 := by rw [hw1]; exact Blk.new w _ _
  obtain ⟨u, us, hcut⟩ := cut_cons 32 (txt s)
  obtain ⟨res, hres⟩ : ∃ res, res = parseEvT (txt s) := ⟨_, rfl⟩
  rw [parseEvT_of hcut] at hres
  rw [parseEvT_of hcut, ← hres]
  have hcl := cut_len 32 (txt s)
  have hsz : (txt s).length = s.size := by simp
  rw [hcut] at hcl
  have hus : us.length ≤ 65536 := by have := hcl.2; simp at this; omega
  have hup : ∀ p ∈ us, p.length ≤ 65536 := fun p hp => by have := hcl.1 p (by simp [hp]); omega
  have hp := split_any (he.maxv.below l1) s 32 hs
  rw [hcut] at hp
  have HP := Lib.hid hp
  have HW := Lib.hid hw1
  have HRES := Lib.hid hres
  have HUS := Lib.hid hus
  have HUP := Lib.hid hup
  have HE := Lib.hid he
  have HEV := Lib.hid hev
  clear hp hw1 hres hcl hsz hcut hus hup he hev
  go_enter Tryz.func24, Tryz.ntmps24
  go_wp2_with fail
  rw [← HW.out]
  refine HP.out.mono ?_
  rintro e w2 ⟨ss, rfl, htx, hw2⟩
  have b12 : Below w1.heap.size w1 w2 := by rw [hw2]; exact (Below.refl _ _).alloc (Nat.le_refl _) _
  have l2 := l1.trans (b12.mono l1.size)
  have B2 := bR.below b12
  have hrow2 : ∀ j (h : j < ss.length), w2.cell? ⟨w1.heap.size, 0 + j, none⟩ = some (.string ss[j]) := fun j hj => by
    rw [hw2, (Blk.new w1 _ _).cell (0 + j)]
    simp [hj]
  obtain ⟨s0, st, rfl⟩ : ∃ s0 st, ss = s0 :: st := by
    cases ss with
    | nil => cases htx
    | cons a b => exact ⟨a, b, rfl⟩
  have hsr : SRw w2 (.slice (some ⟨w1.heap.size, 0, none⟩) (s0 :: st).length (s0 :: st).length) (s0 :: st) := .inr ⟨by simp, _, 0, _, rfl, Nat.le_refl _, hrow2⟩
  simp only [List.map_cons, List.cons.injEq] at htx
  obtain ⟨hu, hst⟩ := htx
  simp only [List.length_cons] at hsr hrow2
  have hc0 : w2.cell? ⟨w1.heap.size, 0, none⟩ = some (.string s0) := hrow2 0 (by simp)
  obtain ⟨A, hA, hsl⟩ := tail27 w1.heap.size 0 st.length (st.length + 1) (Nat.le_refl _)
  have htail : SRw w2 (.slice (some A) st.length st.length) st := by
    by_cases h0 : st = []
    · subst h0; exact .inl ⟨rfl, _, _, rfl⟩
    · refine .inr ⟨h0, w1.heap.size, 0 + 1, st.length, by rw [hA (fun e => h0 (List.length_eq_zero_iff.1 e))], Nat.le_refl _, fun j hj => ?_⟩
      have := hrow2 (j + 1) (by omega)
      rw [show 0 + 1 + j = 0 + (j + 1) by omega, this]
      rfl
  have hstl : st.length ≤ 65536 := by
    have : st.length = us.length := by rw [← hst]; simp
    have := HUS.out
    omega
  have hstz : ∀ x ∈ st, x.size ≤ 65536 := fun x hx => by
    have := HUP.out (txt x) (by rw [← hst]; exact List.mem_map.2 ⟨x, hx, rfl⟩)
    simp at this
    omega
  obtain ⟨w3, hw3⟩ : ∃ w3, w3 = w2.alloc (.cells #[.slice (some ⟨w1.heap.size, 0, none⟩) (st.length + 1) (st.length + 1)] 27) := ⟨_, rfl⟩
  have b23 : Below w2.heap.size w2 w3 := by rw [hw3]; exact (Below.refl _ _).alloc (Nat.le_refl _) _
  have l3 := l2.trans (b23.mono l2.size)
  have hP3 : Blk w3 w2.heap.size #[.slice (some ⟨w1.heap.size, 0, none⟩) (st.length + 1) (st.length + 1)] 27 := by rw [hw3]; exact Blk.new w2 _ _
  obtain ⟨ix, hix, hidx⟩ := evIdx_any (HEV.out.below l3) ((hP3.cell 0).trans rfl) (cell_below hc0 b23)
  rw [hu] at hix
  have hk25 := evOf_le u
  generalize hkk : evOfL u = k at *
  have hix2 : ix = (k : Int) - 1 := by omega
  have HIX := Lib.hid hidx
  have HSL := Lib.hid (fun w => hsl w)
  have HT := Lib.hid (htail.below b23)
  have HST := Lib.hid hst
  have HSZ := Lib.hid hstz
  have HB3 := Lib.hid (B2.below b23)
  have HP3 := Lib.hid hP3
  have HW3 := Lib.hid hw3
  have HA := Lib.hid hA
  have HW12 := Lib.hid (show w1.heap.size < w2.heap.size by rw [hw2]; simp)
  clear bR hsr htail hsl hu hst hrow2 B2 HP hw2 hkk hstz hidx hP3 hw3 hA hc0
  have hixb : -1 ≤ ix ∧ ix ≤ 25 := by omega
  have hixb1 := hixb.1
  have hixb2 := hixb.2
  go_wp2_with fail
  rw [← HW3.out]
  refine HIX.out.mono ?_
  rintro e w4 ⟨rfl, b4⟩
  have l4 := l3.trans (b4.mono l3.size)
  have HB4 := Lib.hid (HB3.out.below b4)
  have HP4 := Lib.hid (HP3.out.below b4)
  have HT4 := Lib.hid (HT.out.below b4)
  have HW4 := Lib.hid (show w2.heap.size < w4.heap.size from HP4.out.lt)
  have hB4 := HB4.out
  clear HIX HB3 HT HP3
  by_cases hk0 : k = 0
  · have hix0 : ix + 1 = 0 := by omega
    have hr : res = (evZero, 4) := by rw [HRES.out]; unfold parseEv; rw [if_pos hk0]
    subst hr
    clear hk0 hix hix2 hixb
    go_wp2_with (refine wpList_unit (o := ⟨none, Op.store 26 (.tmp 2) _, _, _, _, _⟩) rfl rfl (Instr.storeAt 26 _ _) rfl (blk_store (c' := #[.int .i64 0, .int .i64 0, .int .i64 0, .int .i64 0, .string ⟨#[]⟩]) hB4 size26 rfl rfl) ?_)
    have hB9 := setRow_heap w4 w.heap.size _ #[.int .i64 0, .int .i64 0, .int .i64 0, .int .i64 0, .string ⟨#[]⟩] 26 hB4
    have hl9 := l4.trans ((setRow_stays w4 w.heap.size #[.int .i64 0, .int .i64 0, .int .i64 0, .int .i64 0, .string ⟨#[]⟩]).below l4.size (fun j hj e => by omega))
    obtain ⟨w9, hw9⟩ : ∃ w9, w9 = (w4).setRow w.heap.size #[.int .i64 0, .int .i64 0, .int .i64 0, .int .i64 0, .string ⟨#[]⟩] := ⟨_, rfl⟩
    rw [← hw9] at hB9 hl9
    rw [← hw9]
    obtain ⟨y0, y1, y2, y3, y4⟩ := ev_cells hB9
    refine ⟨rfl, .tuple #[evA 0 0 0 0 ⟨#[]⟩, .int .i64 4], ?_, hl9, 0, 0, 0, ⟨#[]⟩, rfl, rfl, rfl⟩
    simp [results, Tryz.results24, go_sem, y0, y1, y2, y3, y4]
  obtain ⟨j, rfl⟩ : ∃ j, k = j + 1 := ⟨k - 1, by omega⟩
  have hj : j < 25 := by omega
  have hixj : ix + 1 = (j : Int) + 1 := by omega
  have hwj : ((j : Int) + 1 - 1) = j := by omega
  obtain ⟨t0, t1, t2⟩ := evs_cells (HEV.out.below l4) hj
  obtain ⟨hgw, hgn, hgt⟩ := evs_get hj
  obtain ⟨hwl, hn3⟩ := evw_len ⟨j, hj⟩
  simp only at hwl hn3
  have h11 : 1 < w4.heap.size := Nat.lt_of_lt_of_le HEV.out.1 l4.size
  have hres2 : res = evRes (j + 1) (evNums (j + 1)) (evTok (j + 1)) us := by rw [HRES.out]; exact parseEv_res hk0 us
  rw [hgn, hgt] at hres2
  generalize (evWords[j]!).1 = wd at *
  generalize (evWords[j]!).2.1 = n at *
  generalize (evWords[j]!).2.2 = tk at *
  have HRS := Lib.hid hres2
  obtain ⟨w5, hw5⟩ : ∃ w5, w5 = w4.alloc (.cells #[.string ⟨wd.toArray⟩, .int .i64 n, .bool tk] 84) := ⟨_, rfl⟩
  have b45 : Below w4.heap.size w4 w5 := by rw [hw5]; exact (Below.refl _ _).alloc (Nat.le_refl _) _
  have B5 := HB4.out.below b45
  have P5 := HP4.out.below b45
  have F5 : Blk w5 w4.heap.size #[.string ⟨wd.toArray⟩, .int .i64 n, .bool tk] 84 := by rw [hw5]; exact Blk.new w4 _ _
  have T5 := HT4.out.below b45
  have z5 : w5.heap.size = w4.heap.size + 1 := by rw [hw5]; simp
  obtain ⟨w6, hw6⟩ : ∃ w6, w6 = w5.setCell ⟨w2.heap.size, 0, none⟩ (.slice (some A) st.length st.length) := ⟨_, rfl⟩
  have s56 : Stays (fun k => k = w2.heap.size) w5 w6 := by rw [hw6]; exact Stays.cell (.refl _ w5) 0 _
  have hR2 : w.heap.size < w2.heap.size := Nat.lt_of_lt_of_le (by have := HB4.out.lt; have := l1.size; exact Nat.lt_of_lt_of_le (show w.heap.size < w1.heap.size by rw [HW.out]; simp) b12.size) (Nat.le_refl _)
  have h24 := HW4.out
  have B6 := B5.stays s56 (by omega)
  have F6 := F5.stays s56 (by omega)
  have P6 : Blk w6 w2.heap.size #[.slice (some A) st.length st.length] 27 := by rw [hw6]; exact P5.set 0 _
  have p5 : w5.cell? ⟨w2.heap.size, 0, none⟩ = some (.slice (some ⟨w1.heap.size, 0, none⟩) (st.length + 1) (st.length + 1)) := (P5.cell 0).trans rfl
  have pf5 := P5.frozen 0
  obtain ⟨w7, hw7⟩ : ∃ w7, w7 = w6.alloc (.cells #[.int .i64 ((j : Int) + 1), .int .i64 0, .int .i64 0, .int .i64 0, .string ⟨#[]⟩] 26) := ⟨_, rfl⟩
  have b67 : Below w6.heap.size w6 w7 := by rw [hw7]; exact (Below.refl _ _).alloc (Nat.le_refl _) _
  have B7 := B6.below b67
  have F7 := F6.below b67
  have P7 := P6.below b67
  have V7 : Blk w7 w6.heap.size #[.int .i64 ((j : Int) + 1), .int .i64 0, .int .i64 0, .int .i64 0, .string ⟨#[]⟩] 26 := by rw [hw7]; exact Blk.new w6 _ _
  have H5 := Lib.hid hw5
  have H6 := Lib.hid hw6
  have H7 := Lib.hid hw7
  have l5 := l4.trans (b45.mono l4.size)
  have l6 := l5.trans (s56.below l5.size (fun j hj e => by have e' : j = w2.heap.size := e; omega))
  have l7 := l6.trans (b67.mono l6.size)
  have T7 := (SRw.below (w := w6) (by
    rcases T5 with h | ⟨h0, L, o, c, h1, h2, h3⟩
    · exact .inl h
    · refine .inr ⟨h0, L, o, c, h1, h2, fun i hi => ?_⟩
      have hc := h3 i hi
      refine (World.cell?_of_block (a := ⟨L, o + i, none⟩) (s56.block L (World.block_lt_of_cell? w5 _ hc) (fun e => ?_))).trans hc
      have e' : L = w2.heap.size := e
      have hAA := HA.out (fun h => h0 (List.length_eq_zero_iff.1 h))
      rw [hAA] at h1
      injection h1 with h1 _ _
      injection h1 with h1
      injection h1 with h1 _
      have := HW12.out
      omega) b67)
  clear hw5 hw6 hw7 hix hix2 hixb hres2 hgw hgn hgt hk0 B5 T5 F5 B6 F6 P6 hB4
  go_upto_region 6 with fail
  rw [← H5.out]
  go_upto_region 7 with (refine wpList_val (o := ⟨some 25, _, _, _, _, _⟩) rfl (Instr.sliceAt 27 _ _ _ _) rfl _ (HSL.out _) ?_)
  rw [← H6.out]
  go_upto_region 8 with fail
  rw [← H7.out]
  have hz67 : w7.heap.size = w6.heap.size + 1 := by rw [H7.out]; simp
  have hz56 : w5.heap.size ≤ w6.heap.size := s56.size
  have hz45 : w4.heap.size < w5.heap.size := by rw [H5.out]; simp
  have l37 : 1 < w7.heap.size := by omega
  clear p5 pf5 t0 t1 t2 b45 s56 b67 P5 HB4 HP4 HT4 H5 H6 H7 HSL
  have f2 : w7.cell? ⟨w4.heap.size, 2, none⟩ = some (.bool tk) := (F7.cell 2).trans rfl
  have HSTL := Lib.hid HST.out
  cases tk with
  | false =>
    have hrs : res = match undecAllL us with | none => (evZero, 4) | some l => if l.length = n then (⟨j + 1, (l ++ [0, 0, 0]).take 3, []⟩, 0) else (evZero, 4) := by rw [HRS.out]; rfl
    have HRS2 := Lib.hid hrs
    clear hrs HRS
    have p7 : w7.cell? ⟨w2.heap.size, 0, none⟩ = some (.slice (some A) st.length st.length) := (P7.cell 0).trans rfl
    have HN := undecAll_any (HE.out.below l7) T7 (by omega) HSZ.out
    rw [HST.out] at HN
    have HNN := Lib.hid HN
    have HLEN := Lib.hid (show us.length ≤ 65536 from HUS.out)
    clear HN T7
    go_wp2_with fail
    refine HNN.out.mono ?_
    rintro e wa ⟨ba, ha⟩
    have la := l7.trans (ba.mono l7.size)
    have Ba := Blk.below B7 ba
    have Fa := Blk.below F7 ba
    have Va := Blk.below V7 ba
    have hza := ba.size
    have f1a : wa.cell? ⟨w4.heap.size, 1, none⟩ = some (.int .i64 n) := (Fa.cell 1).trans rfl
    clear HNN p7 f2
    cases hun : undecAllL us with
    | none =>
      rw [hun] at ha HRS2
      subst ha
      have hr : res = (evZero, 4) := HRS2.out
      subst hr
      clear hun HRS2
      go_wp2_with (refine wpList_unit (o := ⟨none, Op.store 26 (.tmp 2) _, _, _, _, _⟩) rfl rfl (Instr.storeAt 26 _ _) rfl (blk_store (c' := #[.int .i64 0, .int .i64 0, .int .i64 0, .int .i64 0, .string ⟨#[]⟩]) Ba size26 rfl rfl) ?_)
      have hB9 := setRow_heap wa w.heap.size _ #[.int .i64 0, .int .i64 0, .int .i64 0, .int .i64 0, .string ⟨#[]⟩] 26 Ba
      have hl9 := la.trans ((setRow_stays wa w.heap.size #[.int .i64 0, .int .i64 0, .int .i64 0, .int .i64 0, .string ⟨#[]⟩]).below la.size (fun j hj e => by omega))
      obtain ⟨w9, hw9⟩ : ∃ w9, w9 = (wa).setRow w.heap.size #[.int .i64 0, .int .i64 0, .int .i64 0, .int .i64 0, .string ⟨#[]⟩] := ⟨_, rfl⟩
      rw [← hw9] at hB9 hl9
      rw [← hw9]
      obtain ⟨y0, y1, y2, y3, y4⟩ := ev_cells hB9
      refine ⟨rfl, .tuple #[evA 0 0 0 0 ⟨#[]⟩, .int .i64 4], ?_, hl9, 0, 0, 0, ⟨#[]⟩, rfl, rfl, rfl⟩
      simp [results, Tryz.results24, go_sem, y0, y1, y2, y3, y4]
    | some l =>
      rw [hun] at ha HRS2
      obtain ⟨v, rfl, hrow⟩ := ha
      obtain ⟨pv, cv, rfl⟩ := (nrow_of hrow).form
      simp only at HRS2
      have hll : l.length ≤ 65536 := by
        have h2 := (undecAll_iff.1 hun).2
        have h3 := congrArg List.length h2
        rw [List.length_map] at h3
        have := HLEN.out
        omega
      clear hun
      by_cases hln : l.length = n
      rotate_left
      · have d3 : ((l.length : Int) != (n : Int)) = true := by simp; omega
        have hr : res = (evZero, 4) := by rw [HRS2.out, if_neg hln]
        subst hr
        clear hln HRS2
        go_wp2_with (refine wpList_unit (o := ⟨none, Op.store 26 (.tmp 2) _, _, _, _, _⟩) rfl rfl (Instr.storeAt 26 _ _) rfl (blk_store (c' := #[.int .i64 0, .int .i64 0, .int .i64 0, .int .i64 0, .string ⟨#[]⟩]) Ba size26 rfl rfl) ?_)
        have hB9 := setRow_heap wa w.heap.size _ #[.int .i64 0, .int .i64 0, .int .i64 0, .int .i64 0, .string ⟨#[]⟩] 26 Ba
        have hl9 := la.trans ((setRow_stays wa w.heap.size #[.int .i64 0, .int .i64 0, .int .i64 0, .int .i64 0, .string ⟨#[]⟩]).below la.size (fun j hj e => by omega))
        obtain ⟨w9, hw9⟩ : ∃ w9, w9 = (wa).setRow w.heap.size #[.int .i64 0, .int .i64 0, .int .i64 0, .int .i64 0, .string ⟨#[]⟩] := ⟨_, rfl⟩
        rw [← hw9] at hB9 hl9
        rw [← hw9]
        obtain ⟨y0, y1, y2, y3, y4⟩ := ev_cells hB9
        refine ⟨rfl, .tuple #[evA 0 0 0 0 ⟨#[]⟩, .int .i64 4], ?_, hl9, 0, 0, 0, ⟨#[]⟩, rfl, rfl, rfl⟩
        simp [results, Tryz.results24, go_sem, y0, y1, y2, y3, y4]
      have d3 : ((l.length : Int) != (n : Int)) = false := by simp [hln]
      have hr : res = (⟨j + 1, (l ++ [0, 0, 0]).take 3, []⟩, 0) := by rw [HRS2.out, if_pos hln]
      have hl3 : l.length ≤ 3 := by omega
      have HLN := Lib.hid hln
      have HR := Lib.hid hr
      obtain ⟨wb, hwb⟩ : ∃ wb, wb = wa.alloc (.cells #[.int .i64 0, .int .i64 0, .int .i64 0] 96) := ⟨_, rfl⟩
      have bab : Below wa.heap.size wa wb := by rw [hwb]; exact (Below.refl _ _).alloc (Nat.le_refl _) _
      have Xb : Blk wb wa.heap.size #[.int .i64 0, .int .i64 0, .int .i64 0] 96 := by rw [hwb]; exact Blk.new wa _ _
      have hsp : ∃ sp, pv = sp ∧ (0 < l.length → ∃ L, sp = some ⟨L, 0, none⟩ ∧ ∀ j u, (l.map fun n => Value.int .i64 n)[j]? = some u → wb.cell? ⟨L, 0 + j, none⟩ = some u) := by
        refine ⟨pv, rfl, fun h0 => ?_⟩
        rcases irow_form hrow with ⟨_, h⟩ | ⟨L, cap, h, _, h2⟩
        · rw [h] at h0; simp at h0
        · injection h with h _ _
          exact ⟨L, h, fun j u hj => cell_below (h2 j u hj) bab⟩
      obtain ⟨sp, rfl, hspp⟩ := hsp
      have HSP := Lib.hid hspp
      have HWB := Lib.hid hwb
      have hzb : wb.heap.size = wa.heap.size + 1 := by rw [hwb]; simp
      have XB := Lib.hid Xb
      have BAB := Lib.hid bab
      clear hln hr hspp hwb Xb HRS2 hrow bab
      obtain ⟨x1, x2, x3, hsplice, htake⟩ : ∃ x1 x2 x3 : Int, splice [Value.int .i64 0, .int .i64 0, .int .i64 0] 0 (l.map fun n => Value.int .i64 n) = [.int .i64 x1, .int .i64 x2, .int .i64 x3] ∧ (l ++ [0, 0, 0]).take 3 = [x1, x2, x3] := by
        match l, hl3 with
        | [], _ => exact ⟨0, 0, 0, rfl, rfl⟩
        | [a], _ => exact ⟨a, 0, 0, rfl, rfl⟩
        | [a, b], _ => exact ⟨a, b, 0, rfl, rfl⟩
        | [a, b, c], _ => exact ⟨a, b, c, rfl, rfl⟩
      have HSPL := Lib.hid hsplice
      have HTK := Lib.hid htake
      clear hsplice htake
      go_wp2_with (with_reducible (refine wpList_copy_splice rfl (.tmp 71) (.tmp 72) 22 22 rfl 3 Tryz.underlying22 ?c1 _ _ _ _ _ _ rfl rfl wa.heap.size 0 [.int .i64 0, .int .i64 0, .int .i64 0] 96 ?c2 (l.map fun n => Value.int .i64 n) ?c3 ?c4 ?c5 ?c6 wa.heap.size wa ?c7 (Nat.le_refl _) ?c8))
      case c1 => kernel_rfl
      case c2 => rw [← HWB.out]; exact XB.out
      case c3 => rw [List.length_map]; exact (Nat.min_eq_left hl3).symm
      case c4 =>
        intro hp
        obtain ⟨L, hsL, hc⟩ := HSP.out (by simpa using hp)
        subst hsL
        refine ⟨⟨L, 0, none⟩, rfl, fun j u hj => ?_⟩
        rw [← HWB.out, Addr.add_lit]
        exact hc j _ (by simp [hj])
      case c5 => simpa using hl3
      case c6 => intro u hu; obtain ⟨n, _, rfl⟩ := List.mem_map.1 hu; rfl
      case c7 => rw [← HWB.out]; exact BAB.out
      case c8 =>
      intro wc hid3 hb3
      have hq := hid3.out
      rw [HSPL.out] at hq
      have q3 : Blk wc wa.heap.size #[.int .i64 x1, .int .i64 x2, .int .i64 x3] 96 := hq
      have Bc := Blk.below Ba hb3
      have Vc := Blk.below Va hb3
      have lc := la.trans (hb3.mono la.size)
      have e0 : wc.cell? ⟨wa.heap.size, 0, none⟩ = some (.int .i64 x1) := (q3.cell 0).trans rfl
      have e1 : wc.cell? ⟨wa.heap.size, 1, none⟩ = some (.int .i64 x2) := (q3.cell 1).trans rfl
      have e2 : wc.cell? ⟨wa.heap.size, 2, none⟩ = some (.int .i64 x3) := (q3.cell 2).trans rfl
      have v0 : wc.cell? ⟨w6.heap.size, 0, none⟩ = some (.int .i64 ((j : Int) + 1)) := (Vc.cell 0).trans rfl
      have v1 : wc.cell? ⟨w6.heap.size, 1, none⟩ = some (.int .i64 0) := (Vc.cell 1).trans rfl
      have v2 : wc.cell? ⟨w6.heap.size, 2, none⟩ = some (.int .i64 0) := (Vc.cell 2).trans rfl
      have v3 : wc.cell? ⟨w6.heap.size, 3, none⟩ = some (.int .i64 0) := (Vc.cell 3).trans rfl
      have v4 : wc.cell? ⟨w6.heap.size, 4, none⟩ = some (.string ⟨#[]⟩) := (Vc.cell 4).trans rfl
      have z0 := Vc.frozen 0
      have z1 := Vc.frozen 1
      have z2 := Vc.frozen 2
      have z3 := Vc.frozen 3
      have z4 := Vc.frozen 4
      obtain ⟨wd', hwd'⟩ : ∃ x, x = (((wc.setCell ⟨w6.heap.size, 1, none⟩ (.int .i64 x1)).setCell ⟨w6.heap.size, 2, none⟩ (.int .i64 x2)).setCell ⟨w6.heap.size, 3, none⟩ (.int .i64 x3)).drew := ⟨_, rfl⟩
      have Vd : Blk wd' w6.heap.size #[.int .i64 ((j : Int) + 1), .int .i64 x1, .int .i64 x2, .int .i64 x3, .string ⟨#[]⟩] 26 := by rw [hwd']; exact (((Vc.set 1 (.int .i64 x1)).set 2 (.int .i64 x2)).set 3 (.int .i64 x3)).drewN 1
      have sd : Stays (fun k => k = w6.heap.size) wc wd' := by rw [hwd']; exact (((Stays.cell (.refl _ wc) 1 (.int .i64 x1)).cell 2 (.int .i64 x2)).cell 3 (.int .i64 x3)).drewN 1
      have Bd := Bc.stays sd (by omega)
      have ld := lc.trans (sd.below lc.size (fun j hj e => by have e' : j = w6.heap.size := e; omega))
      obtain ⟨y0, y1, y2, y3, y4⟩ := ev_cells Vd
      have HWD := Lib.hid hwd'
      clear hid3 hq Fa Ba Va q3 Bc Vc hwd' XB
      go_wp2_with fail
      go_region
      rw [← HWD.out]
      go_wp2_with (refine wpList_unit (o := ⟨none, Op.store 26 (.tmp 2) _, _, _, _, _⟩) rfl rfl (Instr.storeAt 26 _ _) rfl (blk_store (c' := #[.int .i64 ((j : Int) + 1), .int .i64 x1, .int .i64 x2, .int .i64 x3, .string ⟨#[]⟩]) Bd size26 rfl rfl) ?_)
      have hB9 := setRow_heap wd' w.heap.size _ #[.int .i64 ((j : Int) + 1), .int .i64 x1, .int .i64 x2, .int .i64 x3, .string ⟨#[]⟩] 26 Bd
      have hl9 := ld.trans ((setRow_stays wd' w.heap.size #[.int .i64 ((j : Int) + 1), .int .i64 x1, .int .i64 x2, .int .i64 x3, .string ⟨#[]⟩]).below ld.size (fun j hj e => by have e' : j = w.heap.size := e; omega))
      obtain ⟨w9, hw9⟩ : ∃ w9, w9 = wd'.setRow w.heap.size #[.int .i64 ((j : Int) + 1), .int .i64 x1, .int .i64 x2, .int .i64 x3, .string ⟨#[]⟩] := ⟨_, rfl⟩
      rw [← hw9] at hB9 hl9
      rw [← hw9]
      obtain ⟨y0, y1, y2, y3, y4⟩ := ev_cells hB9
      rw [HR.out]
      refine ⟨rfl, .tuple #[evA (j + 1) x1 x2 x3 ⟨#[]⟩, .int .i64 0], ?_, hl9, x1, x2, x3, ⟨#[]⟩, by simp, HTK.out, rfl⟩
      simp [results, Tryz.results24, go_sem, y0, y1, y2, y3, y4]
  | true =>
    by_cases h0 : st = []
    · subst h0
      have hr : res = (evZero, 4) := by rw [HRS.out, ← HST.out]; unfold evRes; rw [if_pos rfl, if_pos List.map_nil]
      subst hr
      rw [List.length_nil] at P7 ⊢
      have p7 : w7.cell? ⟨w2.heap.size, 0, none⟩ = some (.slice (some A) 0 0) := (P7.cell 0).trans rfl
      clear T7 HRS HST HSTL HA
      go_upto_region 10 with fail
      go_wp2_with (refine wpList_unit (o := ⟨none, Op.store 26 (.tmp 2) _, _, _, _, _⟩) rfl rfl (Instr.storeAt 26 _ _) rfl (blk_store (c' := #[.int .i64 0, .int .i64 0, .int .i64 0, .int .i64 0, .string ⟨#[]⟩]) B7 size26 rfl rfl) ?_)
      have hB9 := setRow_heap w7 w.heap.size _ #[.int .i64 0, .int .i64 0, .int .i64 0, .int .i64 0, .string ⟨#[]⟩] 26 B7
      have hl9 := l7.trans ((setRow_stays w7 w.heap.size #[.int .i64 0, .int .i64 0, .int .i64 0, .int .i64 0, .string ⟨#[]⟩]).below l7.size (fun j hj e => by omega))
      obtain ⟨w9, hw9⟩ : ∃ w9, w9 = (w7).setRow w.heap.size #[.int .i64 0, .int .i64 0, .int .i64 0, .int .i64 0, .string ⟨#[]⟩] := ⟨_, rfl⟩
      rw [← hw9] at hB9 hl9
      rw [← hw9]
      obtain ⟨y0, y1, y2, y3, y4⟩ := ev_cells hB9
      refine ⟨rfl, .tuple #[evA 0 0 0 0 ⟨#[]⟩, .int .i64 4], ?_, hl9, 0, 0, 0, ⟨#[]⟩, rfl, rfl, rfl⟩
      simp [results, Tryz.results24, go_sem, y0, y1, y2, y3, y4]
    have hrs : res = (if isTokL (us.getLastD []) then (match undecAllL us.dropLast with | none => ((evZero, 4) : Ev3 × Int) | some l => if l.length = n then (⟨j + 1, (l ++ [0, 0, 0]).take 3, us.getLastD []⟩, 0) else (evZero, 4)) else (evZero, 4) : Ev3 × Int) := by
      rw [HRS.out]
      unfold evRes
      rw [if_pos rfl, if_neg (by rw [← HST.out]; simpa using h0)] <;> rfl
    obtain ⟨L, o, n', x, hA', hm, hc', hst', hdl, hx, hinit⟩ := srw_last T7 h0
    have hlast : us.getLastD [] = txt x := by rw [← HST.out, hst']; simp
    have hdrop : st.dropLast.map txt = us.dropLast := by rw [← HST.out]; simp
    have hL1 : L = w1.heap.size := by
      have h := HA.out (fun e => h0 (List.length_eq_zero_iff.1 e))
      rw [h] at hA'
      injection hA' with e
      injection e with e _ _
      exact e.symm
    injection hA' with hA'
    subst hA'
    rw [hlast] at hrs
    have hxz : x.size ≤ 65536 := HSZ.out x (by rw [hst']; simp)
    have HTOK := Lib.hid (isTok_any x w7 (by omega))
    rw [hm] at P7 hinit ⊢
    have p7 : w7.cell? ⟨w2.heap.size, 0, none⟩ = some (.slice (some ⟨L, o, none⟩) (n' + 1) (n' + 1)) := (P7.cell 0).trans rfl
    have d4 : ((n' : Int) + 1 == 0) = false := by simp; omega
    have hi1 : (n' : Int) + 1 - 1 = (n' : Int) := by omega
    have hn65 : n' < 65536 := by omega
    have HRS2 := Lib.hid hrs
    have HINIT := Lib.hid hinit
    have HDROP := Lib.hid hdrop
    have HDL := Lib.hid hdl
    have HL1 := Lib.hid hL1
    clear hrs HRS T7 hst' hdrop hdl hinit hlast hm hc' hL1 h0 HA HST HSTL
    go_wp2_with fail
    refine HTOK.out.mono ?_
    rintro e wq ⟨rfl, hwq⟩
    rw [hwq]
    clear hwq HTOK
    cases htb : isTokL (txt x) with
    | false =>
      have hr : res = (evZero, 4) := by rw [HRS2.out, htb]; rfl
      subst hr
      clear htb HRS2
      go_wp2_with (refine wpList_unit (o := ⟨none, Op.store 26 (.tmp 2) _, _, _, _, _⟩) rfl rfl (Instr.storeAt 26 _ _) rfl (blk_store (c' := #[.int .i64 0, .int .i64 0, .int .i64 0, .int .i64 0, .string ⟨#[]⟩]) B7 size26 rfl rfl) ?_)
      have hB9 := setRow_heap w7 w.heap.size _ #[.int .i64 0, .int .i64 0, .int .i64 0, .int .i64 0, .string ⟨#[]⟩] 26 B7
      have hl9 := l7.trans ((setRow_stays w7 w.heap.size #[.int .i64 0, .int .i64 0, .int .i64 0, .int .i64 0, .string ⟨#[]⟩]).below l7.size (fun j hj e => by omega))
      obtain ⟨w9, hw9⟩ : ∃ w9, w9 = (w7).setRow w.heap.size #[.int .i64 0, .int .i64 0, .int .i64 0, .int .i64 0, .string ⟨#[]⟩] := ⟨_, rfl⟩
      rw [← hw9] at hB9 hl9
      rw [← hw9]
      obtain ⟨y0, y1, y2, y3, y4⟩ := ev_cells hB9
      refine ⟨rfl, .tuple #[evA 0 0 0 0 ⟨#[]⟩, .int .i64 4], ?_, hl9, 0, 0, 0, ⟨#[]⟩, rfl, rfl, rfl⟩
      simp [results, Tryz.results24, go_sem, y0, y1, y2, y3, y4]
    | true =>
      have hr : res = match undecAllL us.dropLast with | none => (evZero, 4) | some l => if l.length = n then (⟨j + 1, (l ++ [0, 0, 0]).take 3, txt x⟩, 0) else (evZero, 4) := by rw [HRS2.out, htb]; rfl
      have HRS3 := Lib.hid hr
      have v4 : w7.cell? ⟨w6.heap.size, 4, none⟩ = some (.string ⟨#[]⟩) := (V7.cell 4).trans rfl
      have zv4 := V7.frozen 4
      have zp := P7.frozen 0
      clear htb HRS2 hr
      obtain ⟨w8, hw8⟩ : ∃ w8, w8 = w7.setCell ⟨w6.heap.size, 4, none⟩ (.string x) := ⟨_, rfl⟩
      have s78 : Stays (fun k => k = w6.heap.size) w7 w8 := by rw [hw8]; exact Stays.cell (.refl _ w7) 4 _
      have V8 : Blk w8 w6.heap.size #[.int .i64 ((j : Int) + 1), .int .i64 0, .int .i64 0, .int .i64 0, .string x] 26 := by rw [hw8]; exact V7.set 4 _
      have B8 := B7.stays s78 (by omega)
      have F8 := F7.stays s78 (by omega)
      have P8 := P7.stays s78 (by omega)
      have l8 := l7.trans (s78.below l7.size (fun j hj e => by have e' : j = w6.heap.size := e; omega))
      have T8 := HINIT.out.stays s78 (fun L' o' c' n' e _ h => by
        injection e with e _ _
        injection e with e
        injection e with e _ _
        have h' : L' = w6.heap.size := h
        have := HL1.out
        have := HW12.out
        omega)
      obtain ⟨w9, hw9⟩ : ∃ w9, w9 = w8.setCell ⟨w2.heap.size, 0, none⟩ (.slice (some ⟨L, o, none⟩) n' (n' + 1)) := ⟨_, rfl⟩
      have s89 : Stays (fun k => k = w2.heap.size) w8 w9 := by rw [hw9]; exact Stays.cell (.refl _ w8) 0 _
      have V9 := V8.stays s89 (by omega)
      have B9 := B8.stays s89 (by omega)
      have F9 := F8.stays s89 (by omega)
      have P9 : Blk w9 w2.heap.size #[.slice (some ⟨L, o, none⟩) n' (n' + 1)] 27 := by rw [hw9]; exact P8.set 0 _
      have l9 := l8.trans (s89.below l8.size (fun j hj e => by have e' : j = w2.heap.size := e; omega))
      have T9 := T8.stays s89 (fun L' o' c' n' e _ h => by
        injection e with e _ _
        injection e with e
        injection e with e _ _
        have h' : L' = w2.heap.size := h
        have := HL1.out
        have := HW12.out
        omega)
      have z89 : w9.heap.size = w6.heap.size + 1 := by rw [hw9, hw8]; simpa using hz67
      have p8 : w8.cell? ⟨w2.heap.size, 0, none⟩ = some (.slice (some ⟨L, o, none⟩) (n' + 1) (n' + 1)) := (P8.cell 0).trans rfl
      have zp8 := P8.frozen 0
      have H8 := Lib.hid hw8
      have H9 := Lib.hid hw9
      have HI := Lib.hid (fun w => init27 ⟨L, o, none⟩ n' (n' + 1) (Nat.le_refl _) w)
      clear hw8 hw9 s78 s89 T8 V8 B8 F8 P8 l8
      go_upto_region 12 with fail
      rw [← H8.out]
      go_upto_region 13 with (refine wpList_val (o := ⟨some 55, _, _, _, _, _⟩) rfl (Instr.sliceAt 27 _ _ _ _) rfl _ (HI.out _) ?_)
      rw [← H9.out]
      have HN := undecAll_any (HE.out.below l9) T9 (by rw [HDL.out]; omega) (fun y hy => HSZ.out y ((List.dropLast_sublist st).subset hy))
      rw [HDROP.out] at HN
      have HNN := Lib.hid HN
      have HLEN := Lib.hid (show us.dropLast.length ≤ 65536 by rw [← HDROP.out]; simp; have := HDL.out; simp at this; omega)
      have HRS2 := HRS3
      have f2 : w9.cell? ⟨w4.heap.size, 2, none⟩ = some (.bool true) := (F9.cell 2).trans rfl
      have p7' : w9.cell? ⟨w2.heap.size, 0, none⟩ = some (.slice (some ⟨L, o, none⟩) n' (n' + 1)) := (P9.cell 0).trans rfl
      clear HN T9 HRS3 B7 V7 F7 P7 p7 p8 v4 zv4 zp zp8 HI H8 H9
      have p7 := p7'
      clear p7'
      go_wp2_with fail
      refine HNN.out.mono ?_
      rintro e wa ⟨ba, ha⟩
      have la := l9.trans (ba.mono l9.size)
      have Ba := Blk.below B9 ba
      have Fa := Blk.below F9 ba
      have Va := Blk.below V9 ba
      have hza := ba.size
      have f1a : wa.cell? ⟨w4.heap.size, 1, none⟩ = some (.int .i64 n) := (Fa.cell 1).trans rfl
      clear HNN p7 f2
      cases hun : undecAllL us.dropLast with
      | none =>
        rw [hun] at ha HRS2
        subst ha
        have hr : res = (evZero, 4) := HRS2.out
        subst hr
        clear hun HRS2
        go_wp2_with (refine wpList_unit (o := ⟨none, Op.store 26 (.tmp 2) _, _, _, _, _⟩) rfl rfl (Instr.storeAt 26 _ _) rfl (blk_store (c' := #[.int .i64 0, .int .i64 0, .int .i64 0, .int .i64 0, .string ⟨#[]⟩]) Ba size26 rfl rfl) ?_)
        have hB9 := setRow_heap wa w.heap.size _ #[.int .i64 0, .int .i64 0, .int .i64 0, .int .i64 0, .string ⟨#[]⟩] 26 Ba
        have hl9 := la.trans ((setRow_stays wa w.heap.size #[.int .i64 0, .int .i64 0, .int .i64 0, .int .i64 0, .string ⟨#[]⟩]).below la.size (fun j hj e => by omega))
        obtain ⟨w9, hw9⟩ : ∃ w9, w9 = (wa).setRow w.heap.size #[.int .i64 0, .int .i64 0, .int .i64 0, .int .i64 0, .string ⟨#[]⟩] := ⟨_, rfl⟩
        rw [← hw9] at hB9 hl9
        rw [← hw9]
        obtain ⟨y0, y1, y2, y3, y4⟩ := ev_cells hB9
        refine ⟨rfl, .tuple #[evA 0 0 0 0 ⟨#[]⟩, .int .i64 4], ?_, hl9, 0, 0, 0, ⟨#[]⟩, rfl, rfl, rfl⟩
        simp [results, Tryz.results24, go_sem, y0, y1, y2, y3, y4]
      | some l =>
        rw [hun] at ha HRS2
        obtain ⟨v, rfl, hrow⟩ := ha
        obtain ⟨pv, cv, rfl⟩ := (nrow_of hrow).form
        simp only at HRS2
        have hll : l.length ≤ 65536 := by
          have h2 := (undecAll_iff.1 hun).2
          have h3 := congrArg List.length h2
          rw [List.length_map] at h3
          have := HLEN.out
          omega
        clear hun
        by_cases hln : l.length = n
        rotate_left
        · have d3 : ((l.length : Int) != (n : Int)) = true := by simp; omega
          have hr : res = (evZero, 4) := by rw [HRS2.out, if_neg hln]
          subst hr
          clear hln HRS2
          go_wp2_with (refine wpList_unit (o := ⟨none, Op.store 26 (.tmp 2) _, _, _, _, _⟩) rfl rfl (Instr.storeAt 26 _ _) rfl (blk_store (c' := #[.int .i64 0, .int .i64 0, .int .i64 0, .int .i64 0, .string ⟨#[]⟩]) Ba size26 rfl rfl) ?_)
          have hB9 := setRow_heap wa w.heap.size _ #[.int .i64 0, .int .i64 0, .int .i64 0, .int .i64 0, .string ⟨#[]⟩] 26 Ba
          have hl9 := la.trans ((setRow_stays wa w.heap.size #[.int .i64 0, .int .i64 0, .int .i64 0, .int .i64 0, .string ⟨#[]⟩]).below la.size (fun j hj e => by omega))
          obtain ⟨w9, hw9⟩ : ∃ w9, w9 = (wa).setRow w.heap.size #[.int .i64 0, .int .i64 0, .int .i64 0, .int .i64 0, .string ⟨#[]⟩] := ⟨_, rfl⟩
          rw [← hw9] at hB9 hl9
          rw [← hw9]
          obtain ⟨y0, y1, y2, y3, y4⟩ := ev_cells hB9
          refine ⟨rfl, .tuple #[evA 0 0 0 0 ⟨#[]⟩, .int .i64 4], ?_, hl9, 0, 0, 0, ⟨#[]⟩, rfl, rfl, rfl⟩
          simp [results, Tryz.results24, go_sem, y0, y1, y2, y3, y4]
        have d3 : ((l.length : Int) != (n : Int)) = false := by simp [hln]
        have hr : res = (⟨j + 1, (l ++ [0, 0, 0]).take 3, txt x⟩, 0) := by rw [HRS2.out, if_pos hln]
        have hl3 : l.length ≤ 3 := by omega
        have HLN := Lib.hid hln
        have HR := Lib.hid hr
        obtain ⟨wb, hwb⟩ : ∃ wb, wb = wa.alloc (.cells #[.int .i64 0, .int .i64 0, .int .i64 0] 96) := ⟨_, rfl⟩
        have bab : Below wa.heap.size wa wb := by rw [hwb]; exact (Below.refl _ _).alloc (Nat.le_refl _) _
        have Xb : Blk wb wa.heap.size #[.int .i64 0, .int .i64 0, .int .i64 0] 96 := by rw [hwb]; exact Blk.new wa _ _
        have hsp : ∃ sp, pv = sp ∧ (0 < l.length → ∃ L, sp = some ⟨L, 0, none⟩ ∧ ∀ j u, (l.map fun n => Value.int .i64 n)[j]? = some u → wb.cell? ⟨L, 0 + j, none⟩ = some u) := by
          refine ⟨pv, rfl, fun h0 => ?_⟩
          rcases irow_form hrow with ⟨_, h⟩ | ⟨L, cap, h, _, h2⟩
          · rw [h] at h0; simp at h0
          · injection h with h _ _
            exact ⟨L, h, fun j u hj => cell_below (h2 j u hj) bab⟩
        obtain ⟨sp, rfl, hspp⟩ := hsp
        have HSP := Lib.hid hspp
        have HWB := Lib.hid hwb
        have hzb : wb.heap.size = wa.heap.size + 1 := by rw [hwb]; simp
        have XB := Lib.hid Xb
        have BAB := Lib.hid bab
        clear hln hr hspp hwb Xb HRS2 hrow bab
        obtain ⟨x1, x2, x3, hsplice, htake⟩ : ∃ x1 x2 x3 : Int, splice [Value.int .i64 0, .int .i64 0, .int .i64 0] 0 (l.map fun n => Value.int .i64 n) = [.int .i64 x1, .int .i64 x2, .int .i64 x3] ∧ (l ++ [0, 0, 0]).take 3 = [x1, x2, x3] := by
          match l, hl3 with
          | [], _ => exact ⟨0, 0, 0, rfl, rfl⟩
          | [a], _ => exact ⟨a, 0, 0, rfl, rfl⟩
          | [a, b], _ => exact ⟨a, b, 0, rfl, rfl⟩
          | [a, b, c], _ => exact ⟨a, b, c, rfl, rfl⟩
        have HSPL := Lib.hid hsplice
        have HTK := Lib.hid htake
        clear hsplice htake
        go_wp2_with (with_reducible (refine wpList_copy_splice rfl (.tmp 71) (.tmp 72) 22 22 rfl 3 Tryz.underlying22 ?c1 _ _ _ _ _ _ rfl rfl wa.heap.size 0 [.int .i64 0, .int .i64 0, .int .i64 0] 96 ?c2 (l.map fun n => Value.int .i64 n) ?c3 ?c4 ?c5 ?c6 wa.heap.size wa ?c7 (Nat.le_refl _) ?c8))
        case c1 => kernel_rfl
        case c2 => rw [← HWB.out]; exact XB.out
        case c3 => rw [List.length_map]; exact (Nat.min_eq_left hl3).symm
        case c4 =>
          intro hp
          obtain ⟨L, hsL, hc⟩ := HSP.out (by simpa using hp)
          subst hsL
          refine ⟨⟨L, 0, none⟩, rfl, fun j u hj => ?_⟩
          rw [← HWB.out, Addr.add_lit]
          exact hc j _ (by simp [hj])
        case c5 => simpa using hl3
        case c6 => intro u hu; obtain ⟨n, _, rfl⟩ := List.mem_map.1 hu; rfl
        case c7 => rw [← HWB.out]; exact BAB.out
        case c8 =>
        intro wc hid3 hb3
        have hq := hid3.out
        rw [HSPL.out] at hq
        have q3 : Blk wc wa.heap.size #[.int .i64 x1, .int .i64 x2, .int .i64 x3] 96 := hq
        have Bc := Blk.below Ba hb3
        have Vc := Blk.below Va hb3
        have lc := la.trans (hb3.mono la.size)
        have e0 : wc.cell? ⟨wa.heap.size, 0, none⟩ = some (.int .i64 x1) := (q3.cell 0).trans rfl
        have e1 : wc.cell? ⟨wa.heap.size, 1, none⟩ = some (.int .i64 x2) := (q3.cell 1).trans rfl
        have e2 : wc.cell? ⟨wa.heap.size, 2, none⟩ = some (.int .i64 x3) := (q3.cell 2).trans rfl
        have v0 : wc.cell? ⟨w6.heap.size, 0, none⟩ = some (.int .i64 ((j : Int) + 1)) := (Vc.cell 0).trans rfl
        have v1 : wc.cell? ⟨w6.heap.size, 1, none⟩ = some (.int .i64 0) := (Vc.cell 1).trans rfl
        have v2 : wc.cell? ⟨w6.heap.size, 2, none⟩ = some (.int .i64 0) := (Vc.cell 2).trans rfl
        have v3 : wc.cell? ⟨w6.heap.size, 3, none⟩ = some (.int .i64 0) := (Vc.cell 3).trans rfl
        have v4 : wc.cell? ⟨w6.heap.size, 4, none⟩ = some (.string x) := (Vc.cell 4).trans rfl
        have z0 := Vc.frozen 0
        have z1 := Vc.frozen 1
        have z2 := Vc.frozen 2
        have z3 := Vc.frozen 3
        have z4 := Vc.frozen 4
        obtain ⟨wd', hwd'⟩ : ∃ x, x = (((wc.setCell ⟨w6.heap.size, 1, none⟩ (.int .i64 x1)).setCell ⟨w6.heap.size, 2, none⟩ (.int .i64 x2)).setCell ⟨w6.heap.size, 3, none⟩ (.int .i64 x3)).drew := ⟨_, rfl⟩
        have Vd : Blk wd' w6.heap.size #[.int .i64 ((j : Int) + 1), .int .i64 x1, .int .i64 x2, .int .i64 x3, .string x] 26 := by rw [hwd']; exact (((Vc.set 1 (.int .i64 x1)).set 2 (.int .i64 x2)).set 3 (.int .i64 x3)).drewN 1
        have sd : Stays (fun k => k = w6.heap.size) wc wd' := by rw [hwd']; exact (((Stays.cell (.refl _ wc) 1 (.int .i64 x1)).cell 2 (.int .i64 x2)).cell 3 (.int .i64 x3)).drewN 1
        have Bd := Bc.stays sd (by omega)
        have ld := lc.trans (sd.below lc.size (fun j hj e => by have e' : j = w6.heap.size := e; omega))
        obtain ⟨y0, y1, y2, y3, y4⟩ := ev_cells Vd
        have HWD := Lib.hid hwd'
        clear hid3 hq Fa Ba Va q3 Bc Vc hwd' XB
        go_wp2_with fail
        go_region
        rw [← HWD.out]
        go_wp2_with (refine wpList_unit (o := ⟨none, Op.store 26 (.tmp 2) _, _, _, _, _⟩) rfl rfl (Instr.storeAt 26 _ _) rfl (blk_store (c' := #[.int .i64 ((j : Int) + 1), .int .i64 x1, .int .i64 x2, .int .i64 x3, .string x]) Bd size26 rfl rfl) ?_)
        have hB9 := setRow_heap wd' w.heap.size _ #[.int .i64 ((j : Int) + 1), .int .i64 x1, .int .i64 x2, .int .i64 x3, .string x] 26 Bd
        have hl9 := ld.trans ((setRow_stays wd' w.heap.size #[.int .i64 ((j : Int) + 1), .int .i64 x1, .int .i64 x2, .int .i64 x3, .string x]).below ld.size (fun j hj e => by have e' : j = w.heap.size := e; omega))
        obtain ⟨w9, hw9⟩ : ∃ w9, w9 = wd'.setRow w.heap.size #[.int .i64 ((j : Int) + 1), .int .i64 x1, .int .i64 x2, .int .i64 x3, .string x] := ⟨_, rfl⟩
        rw [← hw9] at hB9 hl9
        rw [← hw9]
        obtain ⟨y0, y1, y2, y3, y4⟩ := ev_cells hB9
        rw [HR.out]
        refine ⟨rfl, .tuple #[evA (j + 1) x1 x2 x3 x, .int .i64 0], ?_, hl9, x1, x2, x3, x, by simp, HTK.out, rfl⟩
        simp [results, Tryz.results24, go_sem, y0, y1, y2, y3, y4]
end Go.Proofs.YtddnmocoaahlfaaGreatDoor
