/-
  What the reference's ParseEvent reads, in plain Lean. No condition.
  The reference's ParseEvent. Condition: lines of at most 65536 bytes.
-/
import Derived.Test.YtddnmocoaahlfaaGreatDoorZt
import Derived.Test.YtddnmocoaahlfaaGreatDoorZr
set_option linter.unusedVariables false
set_option linter.unusedSimpArgs false

namespace Go.Proofs.YtddnmocoaahlfaaGreatDoor
open Go.RowKit Go.Shelf

theorem evOf_none {t : List UInt8} (h : ∀ j, 1 ≤ j → j < 26 → evWord j ≠ t) : evOfL t = 0 := by
  by_cases h0 : evOfL t = 0
  · exact h0
  · obtain ⟨a, b, c⟩ := evOf_word rfl h0
    exact absurd a (h _ b (by omega))
theorem evOf_is {t : List UInt8} {k : Nat} (h1 : 1 ≤ k) (h2 : k ≤ 25) (h : evWord k = t) : evOfL t = k := by rw [← h]; exact (ev_fact h1 h2).2.1
/-- Behind the word of kind k: the texts of numbers ps, and the token. -/
def refEv (k n : Nat) (ps : List (List UInt8)) (tx : List UInt8) : Ev3 × Int :=
  match undecAllL ps with
  | none => (evZero, 4)
  | some l => if l.length = n then (if (evTextT k ((l ++ [0, 0, 0]).take 3) tx).2 = 0 then (⟨k, (l ++ [0, 0, 0]).take 3, tx⟩, 0) else (evZero, 4)) else (evZero, 4)
theorem refEv_text {k : Nat} (h1 : 1 ≤ k) (h2 : k ≤ 25) {l : List Int} (hl : l.length = evNums k) (tx : List UInt8) : (evTextT k ((l ++ [0, 0, 0]).take 3) tx).2 = 0 ↔ (if evTok k then isTokL tx = true else tx = []) := by
  have h3 := (ev_fact h1 h2).2.2
  have hz : (((l ++ [0, 0, 0]).take 3).drop (evNums k)).all (· = 0) = true := by
    rw [← hl]
    match l, (show l.length ≤ 3 by omega) with
    | [], _ => rfl
    | [a], _ => rfl
    | [a, b], _ => rfl
    | [a, b, c], _ => rfl
  unfold evTextT
  rw [if_neg (by omega)]
  simp only [Int.toNat_natCast]
  rw [if_pos hz]
  cases evTok k with
  | true => by_cases hx : isTokL tx = true <;> simp [hx]
  | false => by_cases hx : tx = [] <;> simp [hx]
theorem refEv_none {k : Nat} (h1 : 1 ≤ k) (h2 : k ≤ 25) (ht : evTok k = false) (us : List (List UInt8)) : refEv k (evNums k) us [] = evRes k (evNums k) (evTok k) us := by
  unfold refEv evRes
  rw [ht, if_neg (by simp)]
  cases undecAllL us with
  | none => rfl
  | some l =>
    simp only
    by_cases hl : l.length = evNums k
    · rw [if_pos hl, if_pos hl, if_pos]
      rw [refEv_text h1 h2 hl, ht, if_neg (by simp)]
    · rw [if_neg hl, if_neg hl]
theorem refEv_empty {k : Nat} (h1 : 1 ≤ k) (h2 : k ≤ 25) (ht : evTok k = true) : refEv k (evNums k) [] [] = evRes k (evNums k) (evTok k) [] := by
  unfold refEv evRes
  rw [ht, if_pos rfl, if_pos rfl]
  have : undecAllL [] = some [] := rfl
  rw [this]
  simp only
  by_cases hl : ([] : List Int).length = evNums k
  · rw [if_pos hl, if_neg]
    rw [refEv_text h1 h2 hl, ht, if_pos rfl]
    decide
  · rw [if_neg hl]
theorem refEv_some {k : Nat} (h1 : 1 ≤ k) (h2 : k ≤ 25) (ht : evTok k = true) {us : List (List UInt8)} (h0 : us ≠ []) : refEv k (evNums k) us.dropLast (us.getLastD []) = evRes k (evNums k) (evTok k) us := by
  unfold refEv evRes
  rw [ht, if_pos rfl, if_neg h0]
  by_cases hx : isTokL (us.getLastD []) = true
  · rw [if_pos hx]
    cases undecAllL us.dropLast with
    | none => rfl
    | some l =>
      simp only
      by_cases hl : l.length = evNums k
      · rw [if_pos hl, if_pos hl, if_pos]
        rw [refEv_text h1 h2 hl, ht, if_pos rfl]
        exact hx
      · rw [if_neg hl, if_neg hl]
  · rw [if_neg hx]
    cases undecAllL us.dropLast with
    | none => rfl
    | some l =>
      simp only
      by_cases hl : l.length = evNums k
      · rw [if_pos hl, if_neg]
        rw [refEv_text h1 h2 hl, ht, if_pos rfl]
        exact hx
      · rw [if_neg hl]
theorem three_new (w : World) (u v x : Value) (T : TypeId) : ∀ j y, [u, v, x][j]? = some y → (w.alloc (.cells #[u, v, x] T)).cell? ((⟨w.heap.size, 0, none⟩ : Addr).add j) = some y := World.news_of_block (heap_alloc_new w _)
theorem undecAll_i64 {ps : List (List UInt8)} {l : List Int} (h : undecAllL ps = some l) : ∀ n ∈ l, I64 n := (undecAll_iff.1 h).1
theorem refNamed_at {k : Nat} (h1 : 1 ≤ k) (h2 : k ≤ 25) : refNamed (k : Int) = (evWord k, evNums k, evTok k) := by
  unfold refNamed
  rw [if_neg (by omega)]
  rfl
end Go.Proofs.YtddnmocoaahlfaaGreatDoor

namespace Go.Proofs.YtddnmocoaahlfaaGreatDoor
open Go.RowKit Go.Shelf

set_option maxRecDepth 100000 in
set_option maxHeartbeats 4000000 in
theorem parseEvR_any {w : World} (s : ByteArray) (hs : s.size ≤ 65536) : Calls Tryz.prog 39 #[.string s] w (RetEv w (parseEvT (txt s))) := by
  obtain ⟨i0, hi, hz0, hz1, hz2⟩ := info_parts info3
  obtain ⟨w1, hw1⟩ : ∃ w1, w1 = w.alloc (.cells #[.int .i64 0, .int .i64 0, .int .i64 0, .int .i64 0, .string ⟨#[]⟩] 26) := ⟨_, rfl⟩
  have l1 : Below w.heap.size w w1 := by rw [hw1]; exact (Below.refl _ _).alloc (Nat.le_refl _) _
  have bR : Blk w1 w.heap.size #[.int .i64 0, .int .i64 0, .int .i64 0, .int .i64 0, .string ⟨#[]⟩] 26 := by rw [hw1]; exact Blk.new w _ _
  obtain ⟨u, us, hcut⟩ := cut_cons 32 (txt s)
  obtain ⟨res, hres⟩ : ∃ res, res = parseEvT (txt s) := ⟨_, rfl⟩
  rw [parseEvT_of hcut] at hres
  rw [parseEvT_of hcut, ← hres]
  have hcl := cut_len 32 (txt s)
  have hsz : (txt s).length = s.size := by simp
  rw [hcut] at hcl
  have hus : us.length ≤ 65536 := by have := hcl.2; simp at this; omega
  have hup : ∀ p ∈ us, p.length ≤ 65536 := fun p hp => by have := hcl.1 p (by simp [hp]); omega
  have hp := partsR_any (w := w1) s 32 (by omega)
  rw [hcut] at hp
  have HP := Lib.hid hp
  have HW := Lib.hid hw1
  have HRES := Lib.hid hres
  have HUS := Lib.hid hus
  have HUP := Lib.hid hup
  clear hp hw1 hres hcl hsz hcut hus hup
  go_enter Tryz.func39, Tryz.ntmps39
  go_wp2_with fail
  rw [← HW.out]
  refine HP.out.mono ?_
  rintro e w2 ⟨b2, v, ss, rfl, hown, htx⟩
  have l2 := l1.trans (b2.mono l1.size)
  have B2 := bR.below b2
  have hR2 : w.heap.size < w2.heap.size := B2.lt
  obtain ⟨s0, st, rfl⟩ : ∃ s0 st, ss = s0 :: st := by
    cases ss with
    | nil => cases htx
    | cons a b => exact ⟨a, b, rfl⟩
  simp only [List.map_cons, List.cons.injEq] at htx
  obtain ⟨hu, hst⟩ := htx
  have hsr := (srow_of hown).rw
  obtain ⟨g, o, c, rfl, hc, hc0, A, hsl, htail⟩ := srw_tail hsr
  have hstl : st.length ≤ 65536 := by
    have : st.length = us.length := by rw [← hst]; simp
    have := HUS.out
    omega
  have hstz : ∀ x ∈ st, x.size ≤ 65536 := fun x hx => by
    have := HUP.out (txt x) (by rw [← hst]; exact List.mem_map.2 ⟨x, hx, rfl⟩)
    simp at this
    omega
  have HSL := Lib.hid hsl
  have HU := Lib.hid hu
  have HST := Lib.hid hst
  have HSZ := Lib.hid hstz
  have HB2 := Lib.hid B2
  have HSR := Lib.hid hsr
  have HTL := Lib.hid htail
  have HC0 := Lib.hid hc0
  clear bR hown hsr htail hsl hu hst B2 HP hc0 hstz
  go_wp2_with fail
  go_loopw [5, 4] (fun t t4 wr => ∃ k : Nat, t = .int .i64 k ∧ t4 = .slice (some ⟨g, o, none⟩) (st.length + 1) c ∧ 1 ≤ k ∧ k ≤ 26 ∧ Below w2.heap.size w2 wr ∧ ∀ j, 1 ≤ j → j < k → evWord j ≠ u) (fun t t4 wr => 26 - (intOf t).toNat)
  case atStart => exact ⟨1, rfl, rfl, Nat.le_refl _, by decide, Below.refl _ _, fun j h1 h2 => by omega⟩
  case round =>
    obtain ⟨k, rfl, rfl, hk1, hk, hbl, hne⟩ := hrel
    have HNE := Lib.hid hne
    have lr := l2.trans (hbl.mono l2.size)
    have hzr := hbl.size
    clear hne
    by_cases hlt : k < 26
    rotate_left
    · have hk26 : k = 26 := by omega
      have hr : res = (evZero, 4) := by
        rw [HRES.out, evOf_none (fun j h1 h2 => HNE.out j h1 (by omega))]
        rfl
      subst hr
      subst hk26
      have Br := HB2.out.below hbl
      clear HNE
      go_wp2_with (refine wpList_unit (o := ⟨none, Op.store 26 (.tmp 2) _, _, _, _, _⟩) rfl rfl (Instr.storeAt 26 _ _) rfl (blk_store (c' := #[.int .i64 0, .int .i64 0, .int .i64 0, .int .i64 0, .string ⟨#[]⟩]) Br size26 rfl rfl) ?_)
      have hB9 := setRow_heap wr w.heap.size _ #[.int .i64 0, .int .i64 0, .int .i64 0, .int .i64 0, .string ⟨#[]⟩] 26 Br
      have hl9 := lr.trans ((setRow_stays wr w.heap.size #[.int .i64 0, .int .i64 0, .int .i64 0, .int .i64 0, .string ⟨#[]⟩]).below lr.size (fun j hj e => by have e' : j = w.heap.size := e; omega))
      obtain ⟨w9, hw9⟩ : ∃ w9, w9 = (wr).setRow w.heap.size #[.int .i64 0, .int .i64 0, .int .i64 0, .int .i64 0, .string ⟨#[]⟩] := ⟨_, rfl⟩
      rw [← hw9] at hB9 hl9
      rw [← hw9]
      obtain ⟨y0, y1, y2, y3, y4⟩ := ev_cells hB9
      refine ⟨rfl, .tuple #[evA 0 0 0 0 ⟨#[]⟩, .int .i64 4], ?_, hl9, 0, 0, 0, ⟨#[]⟩, rfl, rfl, rfl⟩
      simp [results, Tryz.results39, go_sem, y0, y1, y2, y3, y4]
    have HWW := Lib.hid (named_any0 k wr)
    rw [refNamed_at hk1 (by omega)] at HWW
    have hkk : evWord k = u → res = evRes k (evNums k) (evTok k) us := fun h => by rw [HRES.out, evOf_is hk1 (by omega) h, parseEv_res (by omega)]
    have hq0 := refEv_none (k := k) hk1 (by omega)
    have hq1 := refEv_empty (k := k) hk1 (by omega)
    have hq2 := refEv_some (k := k) hk1 (by omega)
    have hn3 := (ev_fact hk1 (show k ≤ 25 by omega)).2.2
    obtain ⟨wd, hwd⟩ : ∃ wd, wd = evWord k := ⟨_, rfl⟩
    rw [← hwd] at HWW hkk
    have HWD := Lib.hid hwd
    clear hwd
    generalize evNums k = n at *
    generalize evTok k = tk at *
    have HKK := Lib.hid hkk
    have HQ0 := Lib.hid hq0
    have HQ1 := Lib.hid hq1
    have HQ2 := Lib.hid hq2
    clear hkk hq0 hq1 hq2
    have cr0 := cell_below HC0.out hbl
    go_wp2_with fail
    refine HWW.out.mono ?_
    rintro e w3 ⟨b3, sw, rfl, hsw⟩
    have hbl3 := hbl.trans (b3.mono hbl.size)
    have l3 := lr.trans (b3.mono lr.size)
    have c30 := cell_below cr0 b3
    simp only at hsw
    have he0 : (sw.toList == s0.toList) = decide (wd = u) := by rw [ByteArray.toList_eq s0, lit_str', hsw, ← HU.out]
    clear cr0 HWW
    by_cases hcc : wd = u
    rotate_left
    · rw [decide_eq_false hcc] at he0
      have HC := Lib.hid hcc
      clear hcc hsw
      go_wp2_with fail
      go_roundw
      case rel =>
        refine ⟨k + 1, by go_num, rfl, by omega, by omega, hbl3, fun j h1 h2 => ?_⟩
        by_cases hjk : j = k
        · rw [hjk, ← HWD.out]; exact HC.out
        · exact HNE.out j h1 (by omega)
      case measure => simp [intOf]; omega
    rw [decide_eq_true hcc] at he0
    have hres2 := HKK.out hcc
    obtain ⟨w4, hw4⟩ : ∃ w4, w4 = w3.alloc (.cells #[.int .i64 (k : Int), .int .i64 0, .int .i64 0, .int .i64 0, .string ⟨#[]⟩] 26) := ⟨_, rfl⟩
    have b34 : Below w3.heap.size w3 w4 := by rw [hw4]; exact (Below.refl _ _).alloc (Nat.le_refl _) _
    have hb24 := hbl3.trans (b34.mono hbl3.size)
    have B4 := HB2.out.below hb24
    have l4 := l3.trans (b34.mono l3.size)
    have V4 : Blk w4 w3.heap.size #[.int .i64 (k : Int), .int .i64 0, .int .i64 0, .int .i64 0, .string ⟨#[]⟩] 26 := by rw [hw4]; exact Blk.new w3 _ _
    have hz23 : w2.heap.size ≤ w3.heap.size := hbl3.size
    have hz34 : w4.heap.size = w3.heap.size + 1 := by rw [hw4]; simp
    have HW4 := Lib.hid hw4
    have T4 := HTL.out.below hb24
    have S4 := HSR.out.below hb24
    have HRS := Lib.hid hres2
    clear hcc hres2 hw4 HKK HNE HC0 HWD b34 hsw
    go_upto_region 8 with fail
    rw [← HW4.out]
    cases tk with
    | false =>
      have hrs2 : res = refEv k n us (txt ⟨#[]⟩) := by rw [HRS.out]; exact (HQ0.out rfl us).symm
      have HRS2 := Lib.hid hrs2
      have HN := numbersR_any T4 (by omega)
      rw [HST.out] at HN
      have HNN := Lib.hid HN
      have HPL := Lib.hid (show us.length ≤ 131072 by have := HUS.out; omega)
      have HSL2 := HSL
      have HXZ := Lib.hid (show (⟨#[]⟩ : ByteArray).size ≤ 65536 by decide)
      clear hrs2 HN HRS HQ0 HQ1 HQ2 S4 T4
      go_wp2_with (refine wpList_val (o := ⟨some 53, _, _, _, _, _⟩) rfl (Instr.sliceAt 27 _ _ _ _) rfl _ (HSL2.out _) ?_)
      refine HNN.out.mono ?_
      rintro e wa ⟨ba, ha⟩
      have la := l4.trans (ba.mono l4.size)
      have Ba := Blk.below B4 ba
      have Va := Blk.below V4 ba
      have hza := ba.size
      clear HNN
      cases hun : undecAllL us with
      | none =>
        rw [hun] at ha
        have hr : res = (evZero, 4) := by rw [HRS2.out]; unfold refEv; rw [hun]
        subst ha
        subst hr
        clear hun HRS2
        go_wp2_with (refine wpList_unit (o := ⟨none, Op.store 26 (.tmp 2) _, _, _, _, _⟩) rfl rfl (Instr.storeAt 26 _ _) rfl (blk_store (c' := #[.int .i64 0, .int .i64 0, .int .i64 0, .int .i64 0, .string ⟨#[]⟩]) Ba size26 rfl rfl) ?_)
        have hB9 := setRow_heap wa w.heap.size _ #[.int .i64 0, .int .i64 0, .int .i64 0, .int .i64 0, .string ⟨#[]⟩] 26 Ba
        have hl9 := la.trans ((setRow_stays wa w.heap.size #[.int .i64 0, .int .i64 0, .int .i64 0, .int .i64 0, .string ⟨#[]⟩]).below la.size (fun j hj e => by have e' : j = w.heap.size := e; omega))
        obtain ⟨w9, hw9⟩ : ∃ w9, w9 = (wa).setRow w.heap.size #[.int .i64 0, .int .i64 0, .int .i64 0, .int .i64 0, .string ⟨#[]⟩] := ⟨_, rfl⟩
        rw [← hw9] at hB9 hl9
        rw [← hw9]
        obtain ⟨y0, y1, y2, y3, y4⟩ := ev_cells hB9
        refine ⟨rfl, .tuple #[evA 0 0 0 0 ⟨#[]⟩, .int .i64 4], ?_, hl9, 0, 0, 0, ⟨#[]⟩, rfl, rfl, rfl⟩
        simp [results, Tryz.results39, go_sem, y0, y1, y2, y3, y4]
      | some l =>
        rw [hun] at ha
        obtain ⟨v', rfl, hrow⟩ := ha
        obtain ⟨pv, cv, rfl⟩ := (nrow_of hrow).form
        have hI := undecAll_i64 hun
        have hrs3 : res = if l.length = n then (if (evTextT k ((l ++ [0, 0, 0]).take 3) (txt ⟨#[]⟩)).2 = 0 then (⟨k, (l ++ [0, 0, 0]).take 3, (txt ⟨#[]⟩)⟩, 0) else (evZero, 4)) else (evZero, 4) := by rw [HRS2.out]; unfold refEv; rw [hun]
        have hll : l.length ≤ 131072 := by
          have h2 := (undecAll_iff.1 hun).2
          have h3 := congrArg List.length h2
          rw [List.length_map] at h3
          have := HPL.out
          omega
        clear hun HRS2
        by_cases hln : l.length = n
        rotate_left
        · have d3 : ((l.length : Int) != (n : Int)) = true := by simp; omega
          have hr : res = (evZero, 4) := by rw [hrs3, if_neg hln]
          subst hr
          clear hln hrs3
          go_wp2_with (refine wpList_unit (o := ⟨none, Op.store 26 (.tmp 2) _, _, _, _, _⟩) rfl rfl (Instr.storeAt 26 _ _) rfl (blk_store (c' := #[.int .i64 0, .int .i64 0, .int .i64 0, .int .i64 0, .string ⟨#[]⟩]) Ba size26 rfl rfl) ?_)
          have hB9 := setRow_heap wa w.heap.size _ #[.int .i64 0, .int .i64 0, .int .i64 0, .int .i64 0, .string ⟨#[]⟩] 26 Ba
          have hl9 := la.trans ((setRow_stays wa w.heap.size #[.int .i64 0, .int .i64 0, .int .i64 0, .int .i64 0, .string ⟨#[]⟩]).below la.size (fun j hj e => by have e' : j = w.heap.size := e; omega))
          obtain ⟨w9, hw9⟩ : ∃ w9, w9 = (wa).setRow w.heap.size #[.int .i64 0, .int .i64 0, .int .i64 0, .int .i64 0, .string ⟨#[]⟩] := ⟨_, rfl⟩
          rw [← hw9] at hB9 hl9
          rw [← hw9]
          obtain ⟨y0, y1, y2, y3, y4⟩ := ev_cells hB9
          refine ⟨rfl, .tuple #[evA 0 0 0 0 ⟨#[]⟩, .int .i64 4], ?_, hl9, 0, 0, 0, ⟨#[]⟩, rfl, rfl, rfl⟩
          simp [results, Tryz.results39, go_sem, y0, y1, y2, y3, y4]
        have d3 : ((l.length : Int) != (n : Int)) = false := by simp [hln]
        rw [if_pos hln] at hrs3
        have hl3 : l.length ≤ 3 := by omega
        have HLN := Lib.hid hln
        obtain ⟨x1, x2, x3, rl, hspl⟩ : ∃ x1 x2 x3 rl, l ++ [0, 0, 0] = x1 :: x2 :: x3 :: rl := by
          match l, hl3 with
          | [], _ => exact ⟨0, 0, 0, _, rfl⟩
          | [a], _ => exact ⟨a, 0, 0, _, rfl⟩
          | [a, b], _ => exact ⟨a, b, 0, _, rfl⟩
          | [a, b, c], _ => exact ⟨a, b, c, _, rfl⟩
        have hI3 : I64 x1 ∧ I64 x2 ∧ I64 x3 := by
          have hm : ∀ y ∈ l ++ [0, 0, 0], I64 y := by
            intro y hy
            rcases List.mem_append.1 hy with h | h
            · exact hI y h
            · have : y = 0 := by simpa using h
              subst this
              exact ⟨by decide, by decide⟩
          rw [hspl] at hm
          exact ⟨hm x1 (by simp), hm x2 (by simp), hm x3 (by simp)⟩
        rw [hspl] at hrs3
        simp only [List.take_succ_cons, List.take_zero] at hrs3
        have HRS3 := Lib.hid hrs3
        have HSPL := Lib.hid hspl
        have hml : (l.length + 3 : Nat) = l.length + 3 := rfl
        clear hln hrs3 hspl hI
        go_upto_region 15 with (at_builtin; refine wpList_append_lies _ rfl _ _ 22 rfl w4.heap.size 3 i0 (.int .i64 0) 1 8 Tryz.underlying22 hi hz0 hz1 hz2 rfl (by decide) _ _ _ rfl (hrow.alloc _) ⟨wa.heap.size, 0, none⟩ 3 3 [.int .i64 0, .int .i64 0, .int .i64 0] rfl rfl (three_new _ _ _ _ _) (by simp [Value.oneCell']) (by decide) (by unfold maxLen; omega) (by omega) (by simp; omega) _ rfl ?_; intro g3 cap3 wb hown3 hgr hat hg3)
        have hne3 : ∀ G, ((Value.slice pv l.length cv).ownBlock = some g3 ∨ g3 = G) → G = wa.heap.size + 1 → g3 ≠ w3.heap.size := by
          rintro G (h | h) hG
          · have := (hrow.lt g3 h).1
            omega
          · omega
        have bb : Below w4.heap.size w4 wb := (ba.alloc hza _).grown hgr (by simp; omega) (fun j hj => (hrow.lt j hj).1)
        have lb := l4.trans (bb.mono l4.size)
        have Bb := Blk.below B4 bb
        have Vb := Blk.below V4 bb
        have hzb := bb.size
        have hxs : (l.map fun n => Value.int .i64 n) ++ [.int .i64 0, .int .i64 0, .int .i64 0] = (l ++ [0, 0, 0]).map fun n => Value.int .i64 n := by simp
        rw [hxs, HSPL.out] at hown3
        have e0 : wb.cell? ⟨g3, 0, none⟩ = some (.int .i64 x1) := (hown3.cellAt 0 (by omega)).trans rfl
        have e1 : wb.cell? ⟨g3, 1, none⟩ = some (.int .i64 x2) := (hown3.cellAt 1 (by omega)).trans rfl
        have e2 : wb.cell? ⟨g3, 2, none⟩ = some (.int .i64 x3) := (hown3.cellAt 2 (by omega)).trans rfl
        have v0 : wb.cell? ⟨w3.heap.size, 0, none⟩ = some (.int .i64 k) := (Vb.cell 0).trans rfl
        have v1 : wb.cell? ⟨w3.heap.size, 1, none⟩ = some (.int .i64 0) := (Vb.cell 1).trans rfl
        have v2 : wb.cell? ⟨w3.heap.size, 2, none⟩ = some (.int .i64 0) := (Vb.cell 2).trans rfl
        have v3 : wb.cell? ⟨w3.heap.size, 3, none⟩ = some (.int .i64 0) := (Vb.cell 3).trans rfl
        have v4 : wb.cell? ⟨w3.heap.size, 4, none⟩ = some (.string ⟨#[]⟩) := (Vb.cell 4).trans rfl
        have z0 := Vb.frozen 0
        have z1 := Vb.frozen 1
        have z2 := Vb.frozen 2
        have z3 := Vb.frozen 3
        have z4 := Vb.frozen 4
        have hg3w : g3 ≠ w3.heap.size := hne3 _ hat (by simp)
        have m0 : 0 < l.length + 3 := by omega
        have m1 : 1 < l.length + 3 := by omega
        have m2 : 2 < l.length + 3 := by omega
        obtain ⟨wc, hwc⟩ : ∃ x, x = ((wb.setCell ⟨w3.heap.size, 1, none⟩ (.int .i64 x1)).setCell ⟨w3.heap.size, 2, none⟩ (.int .i64 x2)).setCell ⟨w3.heap.size, 3, none⟩ (.int .i64 x3) := ⟨_, rfl⟩
        have Vc : Blk wc w3.heap.size #[.int .i64 (k : Int), .int .i64 x1, .int .i64 x2, .int .i64 x3, .string ⟨#[]⟩] 26 := by rw [hwc]; exact ((Vb.set 1 (.int .i64 x1)).set 2 (.int .i64 x2)).set 3 (.int .i64 x3)
        have sc : Stays (fun k => k = w3.heap.size) wb wc := by rw [hwc]; exact ((Stays.cell (.refl _ wb) 1 (.int .i64 x1)).cell 2 (.int .i64 x2)).cell 3 (.int .i64 x3)
        have Bc := Bb.stays sc (by omega)
        have lc := lb.trans (sc.below lb.size (fun j hj e => by have e' : j = w3.heap.size := e; omega))
        obtain ⟨t1, te, htt⟩ : ∃ t1 te, (t1, te) = evTextT k [x1, x2, x3] (txt ⟨#[]⟩) := ⟨_, _, rfl⟩
        have hT := evTextR_any (w := wc) (k := (k : Int)) (s := ⟨#[]⟩) hI3.1 hI3.2.1 hI3.2.2 HXZ.out
        have hte : (evTextT k [x1, x2, x3] (txt ⟨#[]⟩)).2 = te := by rw [← htt]
        have hrs4 : res = if te = 0 then (⟨k, [x1, x2, x3], (txt ⟨#[]⟩)⟩, 0) else (evZero, 4) := by
          rw [HRS3.out]
          by_cases h : te = 0
          · rw [if_pos h]; exact if_pos (hte.trans h)
          · rw [if_neg h]; exact if_neg (fun e => h (hte.symm.trans e))
        rw [← htt] at hT
        have HRS4 := Lib.hid hrs4
        have HT := Lib.hid hT
        clear hT hrs4 htt HRS3 hte
        obtain ⟨y0, y1, y2, y3, y4⟩ := ev_cells Vc
        have HWC := Lib.hid hwc
        clear hwc hown3 hgr hat hg3 hrow Ba Va Vb Bb sc hxs hI3
        go_upto_region 18 with fail
        rw [← HWC.out]
        clear e0 e1 e2 v0 v1 v2 v3 v4 z0 z1 z2 z3 z4
        go_wp2_with fail
        refine HT.out.mono ?_
        rintro e wd ⟨bd, sx, rfl, hsx⟩
        have ld := lc.trans (bd.mono lc.size)
        have Bd := Bc.below bd
        have Vd := Vc.below bd
        clear y0 y1 y2 y3 y4 HT hsx
        obtain ⟨y0, y1, y2, y3, y4⟩ := ev_cells Vd
        simp only
        have hrs4 := HRS4.out
        clear HRS4
        by_cases hte0 : te = 0
        · have d5 : (te != 0) = false := by simp [hte0]
          rw [if_pos hte0] at hrs4
          have hr := Lib.hid hrs4
          clear hte0 hrs4
          go_wp2_with (refine wpList_unit (o := ⟨none, Op.store 26 (.tmp 2) _, _, _, _, _⟩) rfl rfl (Instr.storeAt 26 _ _) rfl (blk_store (c' := #[.int .i64 (k : Int), .int .i64 x1, .int .i64 x2, .int .i64 x3, .string ⟨#[]⟩]) Bd size26 rfl rfl) ?_)
          have hB9 := setRow_heap wd w.heap.size _ #[.int .i64 (k : Int), .int .i64 x1, .int .i64 x2, .int .i64 x3, .string ⟨#[]⟩] 26 Bd
          have hl9 := ld.trans ((setRow_stays wd w.heap.size #[.int .i64 (k : Int), .int .i64 x1, .int .i64 x2, .int .i64 x3, .string ⟨#[]⟩]).below ld.size (fun j hj e => by have e' : j = w.heap.size := e; omega))
          obtain ⟨w9, hw9⟩ : ∃ w9, w9 = wd.setRow w.heap.size #[.int .i64 (k : Int), .int .i64 x1, .int .i64 x2, .int .i64 x3, .string ⟨#[]⟩] := ⟨_, rfl⟩
          rw [← hw9] at hB9 hl9
          rw [← hw9]
          clear y0 y1 y2 y3 y4
          obtain ⟨y0, y1, y2, y3, y4⟩ := ev_cells hB9
          rw [hr.out]
          refine ⟨rfl, .tuple #[evA k x1 x2 x3 ⟨#[]⟩, .int .i64 0], ?_, hl9, x1, x2, x3, ⟨#[]⟩, rfl, rfl, rfl⟩
          simp [results, Tryz.results39, go_sem, y0, y1, y2, y3, y4]
        · have d5 : (te != 0) = true := by simp [hte0]
          rw [if_neg hte0] at hrs4
          subst hrs4
          clear hte0 y0 y1 y2 y3 y4
          go_wp2_with (refine wpList_unit (o := ⟨none, Op.store 26 (.tmp 2) _, _, _, _, _⟩) rfl rfl (Instr.storeAt 26 _ _) rfl (blk_store (c' := #[.int .i64 0, .int .i64 0, .int .i64 0, .int .i64 0, .string ⟨#[]⟩]) Bd size26 rfl rfl) ?_)
          have hB9 := setRow_heap wd w.heap.size _ #[.int .i64 0, .int .i64 0, .int .i64 0, .int .i64 0, .string ⟨#[]⟩] 26 Bd
          have hl9 := ld.trans ((setRow_stays wd w.heap.size #[.int .i64 0, .int .i64 0, .int .i64 0, .int .i64 0, .string ⟨#[]⟩]).below ld.size (fun j hj e => by have e' : j = w.heap.size := e; omega))
          obtain ⟨w9, hw9⟩ : ∃ w9, w9 = (wd).setRow w.heap.size #[.int .i64 0, .int .i64 0, .int .i64 0, .int .i64 0, .string ⟨#[]⟩] := ⟨_, rfl⟩
          rw [← hw9] at hB9 hl9
          rw [← hw9]
          obtain ⟨y0, y1, y2, y3, y4⟩ := ev_cells hB9
          refine ⟨rfl, .tuple #[evA 0 0 0 0 ⟨#[]⟩, .int .i64 4], ?_, hl9, 0, 0, 0, ⟨#[]⟩, rfl, rfl, rfl⟩
          simp [results, Tryz.results39, go_sem, y0, y1, y2, y3, y4]
    | true =>
      by_cases h0 : st = []
      · subst h0
        have hus0 : us = [] := HST.out.symm
        have hrs2 : res = refEv k n us (txt ⟨#[]⟩) := by rw [HRS.out, hus0]; exact (HQ1.out rfl).symm
        have HRS2 := Lib.hid hrs2
        have HN := numbersR_any T4 (by omega)
        rw [HST.out] at HN
        rw [List.length_nil] at HSL HN ⊢
        have HNN := Lib.hid HN
        have HPL := Lib.hid (show us.length ≤ 131072 by have := HUS.out; omega)
        have HSL2 := HSL
        have HXZ := Lib.hid (show (⟨#[]⟩ : ByteArray).size ≤ 65536 by decide)
        clear hrs2 HN HRS HQ0 HQ1 HQ2 S4 T4 hus0
        go_wp2_with (refine wpList_val (o := ⟨some 53, _, _, _, _, _⟩) rfl (Instr.sliceAt 27 _ _ _ _) rfl _ (HSL2.out _) ?_)
        refine HNN.out.mono ?_
        rintro e wa ⟨ba, ha⟩
        have la := l4.trans (ba.mono l4.size)
        have Ba := Blk.below B4 ba
        have Va := Blk.below V4 ba
        have hza := ba.size
        clear HNN
        cases hun : undecAllL us with
        | none =>
          rw [hun] at ha
          have hr : res = (evZero, 4) := by rw [HRS2.out]; unfold refEv; rw [hun]
          subst ha
          subst hr
          clear hun HRS2
          go_wp2_with (refine wpList_unit (o := ⟨none, Op.store 26 (.tmp 2) _, _, _, _, _⟩) rfl rfl (Instr.storeAt 26 _ _) rfl (blk_store (c' := #[.int .i64 0, .int .i64 0, .int .i64 0, .int .i64 0, .string ⟨#[]⟩]) Ba size26 rfl rfl) ?_)
          have hB9 := setRow_heap wa w.heap.size _ #[.int .i64 0, .int .i64 0, .int .i64 0, .int .i64 0, .string ⟨#[]⟩] 26 Ba
          have hl9 := la.trans ((setRow_stays wa w.heap.size #[.int .i64 0, .int .i64 0, .int .i64 0, .int .i64 0, .string ⟨#[]⟩]).below la.size (fun j hj e => by have e' : j = w.heap.size := e; omega))
          obtain ⟨w9, hw9⟩ : ∃ w9, w9 = (wa).setRow w.heap.size #[.int .i64 0, .int .i64 0, .int .i64 0, .int .i64 0, .string ⟨#[]⟩] := ⟨_, rfl⟩
          rw [← hw9] at hB9 hl9
          rw [← hw9]
          obtain ⟨y0, y1, y2, y3, y4⟩ := ev_cells hB9
          refine ⟨rfl, .tuple #[evA 0 0 0 0 ⟨#[]⟩, .int .i64 4], ?_, hl9, 0, 0, 0, ⟨#[]⟩, rfl, rfl, rfl⟩
          simp [results, Tryz.results39, go_sem, y0, y1, y2, y3, y4]
        | some l =>
          rw [hun] at ha
          obtain ⟨v', rfl, hrow⟩ := ha
          obtain ⟨pv, cv, rfl⟩ := (nrow_of hrow).form
          have hI := undecAll_i64 hun
          have hrs3 : res = if l.length = n then (if (evTextT k ((l ++ [0, 0, 0]).take 3) (txt ⟨#[]⟩)).2 = 0 then (⟨k, (l ++ [0, 0, 0]).take 3, (txt ⟨#[]⟩)⟩, 0) else (evZero, 4)) else (evZero, 4) := by rw [HRS2.out]; unfold refEv; rw [hun]
          have hll : l.length ≤ 131072 := by
            have h2 := (undecAll_iff.1 hun).2
            have h3 := congrArg List.length h2
            rw [List.length_map] at h3
            have := HPL.out
            omega
          clear hun HRS2
          by_cases hln : l.length = n
          rotate_left
          · have d3 : ((l.length : Int) != (n : Int)) = true := by simp; omega
            have hr : res = (evZero, 4) := by rw [hrs3, if_neg hln]
            subst hr
            clear hln hrs3
            go_wp2_with (refine wpList_unit (o := ⟨none, Op.store 26 (.tmp 2) _, _, _, _, _⟩) rfl rfl (Instr.storeAt 26 _ _) rfl (blk_store (c' := #[.int .i64 0, .int .i64 0, .int .i64 0, .int .i64 0, .string ⟨#[]⟩]) Ba size26 rfl rfl) ?_)
            have hB9 := setRow_heap wa w.heap.size _ #[.int .i64 0, .int .i64 0, .int .i64 0, .int .i64 0, .string ⟨#[]⟩] 26 Ba
            have hl9 := la.trans ((setRow_stays wa w.heap.size #[.int .i64 0, .int .i64 0, .int .i64 0, .int .i64 0, .string ⟨#[]⟩]).below la.size (fun j hj e => by have e' : j = w.heap.size := e; omega))
            obtain ⟨w9, hw9⟩ : ∃ w9, w9 = (wa).setRow w.heap.size #[.int .i64 0, .int .i64 0, .int .i64 0, .int .i64 0, .string ⟨#[]⟩] := ⟨_, rfl⟩
            rw [← hw9] at hB9 hl9
            rw [← hw9]
            obtain ⟨y0, y1, y2, y3, y4⟩ := ev_cells hB9
            refine ⟨rfl, .tuple #[evA 0 0 0 0 ⟨#[]⟩, .int .i64 4], ?_, hl9, 0, 0, 0, ⟨#[]⟩, rfl, rfl, rfl⟩
            simp [results, Tryz.results39, go_sem, y0, y1, y2, y3, y4]
          have d3 : ((l.length : Int) != (n : Int)) = false := by simp [hln]
          rw [if_pos hln] at hrs3
          have hl3 : l.length ≤ 3 := by omega
          have HLN := Lib.hid hln
          obtain ⟨x1, x2, x3, rl, hspl⟩ : ∃ x1 x2 x3 rl, l ++ [0, 0, 0] = x1 :: x2 :: x3 :: rl := by
            match l, hl3 with
            | [], _ => exact ⟨0, 0, 0, _, rfl⟩
            | [a], _ => exact ⟨a, 0, 0, _, rfl⟩
            | [a, b], _ => exact ⟨a, b, 0, _, rfl⟩
            | [a, b, c], _ => exact ⟨a, b, c, _, rfl⟩
          have hI3 : I64 x1 ∧ I64 x2 ∧ I64 x3 := by
            have hm : ∀ y ∈ l ++ [0, 0, 0], I64 y := by
              intro y hy
              rcases List.mem_append.1 hy with h | h
              · exact hI y h
              · have : y = 0 := by simpa using h
                subst this
                exact ⟨by decide, by decide⟩
            rw [hspl] at hm
            exact ⟨hm x1 (by simp), hm x2 (by simp), hm x3 (by simp)⟩
          rw [hspl] at hrs3
          simp only [List.take_succ_cons, List.take_zero] at hrs3
          have HRS3 := Lib.hid hrs3
          have HSPL := Lib.hid hspl
          have hml : (l.length + 3 : Nat) = l.length + 3 := rfl
          clear hln hrs3 hspl hI
          go_upto_region 15 with (at_builtin; refine wpList_append_lies _ rfl _ _ 22 rfl w4.heap.size 3 i0 (.int .i64 0) 1 8 Tryz.underlying22 hi hz0 hz1 hz2 rfl (by decide) _ _ _ rfl (hrow.alloc _) ⟨wa.heap.size, 0, none⟩ 3 3 [.int .i64 0, .int .i64 0, .int .i64 0] rfl rfl (three_new _ _ _ _ _) (by simp [Value.oneCell']) (by decide) (by unfold maxLen; omega) (by omega) (by simp; omega) _ rfl ?_; intro g3 cap3 wb hown3 hgr hat hg3)
          have hne3 : ∀ G, ((Value.slice pv l.length cv).ownBlock = some g3 ∨ g3 = G) → G = wa.heap.size + 1 → g3 ≠ w3.heap.size := by
            rintro G (h | h) hG
            · have := (hrow.lt g3 h).1
              omega
            · omega
          have bb : Below w4.heap.size w4 wb := (ba.alloc hza _).grown hgr (by simp; omega) (fun j hj => (hrow.lt j hj).1)
          have lb := l4.trans (bb.mono l4.size)
          have Bb := Blk.below B4 bb
          have Vb := Blk.below V4 bb
          have hzb := bb.size
          have hxs : (l.map fun n => Value.int .i64 n) ++ [.int .i64 0, .int .i64 0, .int .i64 0] = (l ++ [0, 0, 0]).map fun n => Value.int .i64 n := by simp
          rw [hxs, HSPL.out] at hown3
          have e0 : wb.cell? ⟨g3, 0, none⟩ = some (.int .i64 x1) := (hown3.cellAt 0 (by omega)).trans rfl
          have e1 : wb.cell? ⟨g3, 1, none⟩ = some (.int .i64 x2) := (hown3.cellAt 1 (by omega)).trans rfl
          have e2 : wb.cell? ⟨g3, 2, none⟩ = some (.int .i64 x3) := (hown3.cellAt 2 (by omega)).trans rfl
          have v0 : wb.cell? ⟨w3.heap.size, 0, none⟩ = some (.int .i64 k) := (Vb.cell 0).trans rfl
          have v1 : wb.cell? ⟨w3.heap.size, 1, none⟩ = some (.int .i64 0) := (Vb.cell 1).trans rfl
          have v2 : wb.cell? ⟨w3.heap.size, 2, none⟩ = some (.int .i64 0) := (Vb.cell 2).trans rfl
          have v3 : wb.cell? ⟨w3.heap.size, 3, none⟩ = some (.int .i64 0) := (Vb.cell 3).trans rfl
          have v4 : wb.cell? ⟨w3.heap.size, 4, none⟩ = some (.string ⟨#[]⟩) := (Vb.cell 4).trans rfl
          have z0 := Vb.frozen 0
          have z1 := Vb.frozen 1
          have z2 := Vb.frozen 2
          have z3 := Vb.frozen 3
          have z4 := Vb.frozen 4
          have hg3w : g3 ≠ w3.heap.size := hne3 _ hat (by simp)
          have m0 : 0 < l.length + 3 := by omega
          have m1 : 1 < l.length + 3 := by omega
          have m2 : 2 < l.length + 3 := by omega
          obtain ⟨wc, hwc⟩ : ∃ x, x = ((wb.setCell ⟨w3.heap.size, 1, none⟩ (.int .i64 x1)).setCell ⟨w3.heap.size, 2, none⟩ (.int .i64 x2)).setCell ⟨w3.heap.size, 3, none⟩ (.int .i64 x3) := ⟨_, rfl⟩
          have Vc : Blk wc w3.heap.size #[.int .i64 (k : Int), .int .i64 x1, .int .i64 x2, .int .i64 x3, .string ⟨#[]⟩] 26 := by rw [hwc]; exact ((Vb.set 1 (.int .i64 x1)).set 2 (.int .i64 x2)).set 3 (.int .i64 x3)
          have sc : Stays (fun k => k = w3.heap.size) wb wc := by rw [hwc]; exact ((Stays.cell (.refl _ wb) 1 (.int .i64 x1)).cell 2 (.int .i64 x2)).cell 3 (.int .i64 x3)
          have Bc := Bb.stays sc (by omega)
          have lc := lb.trans (sc.below lb.size (fun j hj e => by have e' : j = w3.heap.size := e; omega))
          obtain ⟨t1, te, htt⟩ : ∃ t1 te, (t1, te) = evTextT k [x1, x2, x3] (txt ⟨#[]⟩) := ⟨_, _, rfl⟩
          have hT := evTextR_any (w := wc) (k := (k : Int)) (s := ⟨#[]⟩) hI3.1 hI3.2.1 hI3.2.2 HXZ.out
          have hte : (evTextT k [x1, x2, x3] (txt ⟨#[]⟩)).2 = te := by rw [← htt]
          have hrs4 : res = if te = 0 then (⟨k, [x1, x2, x3], (txt ⟨#[]⟩)⟩, 0) else (evZero, 4) := by
            rw [HRS3.out]
            by_cases h : te = 0
            · rw [if_pos h]; exact if_pos (hte.trans h)
            · rw [if_neg h]; exact if_neg (fun e => h (hte.symm.trans e))
          rw [← htt] at hT
          have HRS4 := Lib.hid hrs4
          have HT := Lib.hid hT
          clear hT hrs4 htt HRS3 hte
          obtain ⟨y0, y1, y2, y3, y4⟩ := ev_cells Vc
          have HWC := Lib.hid hwc
          clear hwc hown3 hgr hat hg3 hrow Ba Va Vb Bb sc hxs hI3
          go_upto_region 18 with fail
          rw [← HWC.out]
          clear e0 e1 e2 v0 v1 v2 v3 v4 z0 z1 z2 z3 z4
          go_wp2_with fail
          refine HT.out.mono ?_
          rintro e wd ⟨bd, sx, rfl, hsx⟩
          have ld := lc.trans (bd.mono lc.size)
          have Bd := Bc.below bd
          have Vd := Vc.below bd
          clear y0 y1 y2 y3 y4 HT hsx
          obtain ⟨y0, y1, y2, y3, y4⟩ := ev_cells Vd
          simp only
          have hrs4 := HRS4.out
          clear HRS4
          by_cases hte0 : te = 0
          · have d5 : (te != 0) = false := by simp [hte0]
            rw [if_pos hte0] at hrs4
            have hr := Lib.hid hrs4
            clear hte0 hrs4
            go_wp2_with (refine wpList_unit (o := ⟨none, Op.store 26 (.tmp 2) _, _, _, _, _⟩) rfl rfl (Instr.storeAt 26 _ _) rfl (blk_store (c' := #[.int .i64 (k : Int), .int .i64 x1, .int .i64 x2, .int .i64 x3, .string ⟨#[]⟩]) Bd size26 rfl rfl) ?_)
            have hB9 := setRow_heap wd w.heap.size _ #[.int .i64 (k : Int), .int .i64 x1, .int .i64 x2, .int .i64 x3, .string ⟨#[]⟩] 26 Bd
            have hl9 := ld.trans ((setRow_stays wd w.heap.size #[.int .i64 (k : Int), .int .i64 x1, .int .i64 x2, .int .i64 x3, .string ⟨#[]⟩]).below ld.size (fun j hj e => by have e' : j = w.heap.size := e; omega))
            obtain ⟨w9, hw9⟩ : ∃ w9, w9 = wd.setRow w.heap.size #[.int .i64 (k : Int), .int .i64 x1, .int .i64 x2, .int .i64 x3, .string ⟨#[]⟩] := ⟨_, rfl⟩
            rw [← hw9] at hB9 hl9
            rw [← hw9]
            clear y0 y1 y2 y3 y4
            obtain ⟨y0, y1, y2, y3, y4⟩ := ev_cells hB9
            rw [hr.out]
            refine ⟨rfl, .tuple #[evA k x1 x2 x3 ⟨#[]⟩, .int .i64 0], ?_, hl9, x1, x2, x3, ⟨#[]⟩, rfl, rfl, rfl⟩
            simp [results, Tryz.results39, go_sem, y0, y1, y2, y3, y4]
          · have d5 : (te != 0) = true := by simp [hte0]
            rw [if_neg hte0] at hrs4
            subst hrs4
            clear hte0 y0 y1 y2 y3 y4
            go_wp2_with (refine wpList_unit (o := ⟨none, Op.store 26 (.tmp 2) _, _, _, _, _⟩) rfl rfl (Instr.storeAt 26 _ _) rfl (blk_store (c' := #[.int .i64 0, .int .i64 0, .int .i64 0, .int .i64 0, .string ⟨#[]⟩]) Bd size26 rfl rfl) ?_)
            have hB9 := setRow_heap wd w.heap.size _ #[.int .i64 0, .int .i64 0, .int .i64 0, .int .i64 0, .string ⟨#[]⟩] 26 Bd
            have hl9 := ld.trans ((setRow_stays wd w.heap.size #[.int .i64 0, .int .i64 0, .int .i64 0, .int .i64 0, .string ⟨#[]⟩]).below ld.size (fun j hj e => by have e' : j = w.heap.size := e; omega))
            obtain ⟨w9, hw9⟩ : ∃ w9, w9 = (wd).setRow w.heap.size #[.int .i64 0, .int .i64 0, .int .i64 0, .int .i64 0, .string ⟨#[]⟩] := ⟨_, rfl⟩
            rw [← hw9] at hB9 hl9
            rw [← hw9]
            obtain ⟨y0, y1, y2, y3, y4⟩ := ev_cells hB9
            refine ⟨rfl, .tuple #[evA 0 0 0 0 ⟨#[]⟩, .int .i64 4], ?_, hl9, 0, 0, 0, ⟨#[]⟩, rfl, rfl, rfl⟩
            simp [results, Tryz.results39, go_sem, y0, y1, y2, y3, y4]
      · obtain ⟨L, o', n', x, hp, hm, hc', hst', hdl, hx, hinit⟩ := srw_last HSR.out (List.cons_ne_nil _ _)
        injection hp with hp
        injection hp with ea eb _
        subst ea
        subst eb
        have hq : st.length = n' := by omega
        have hdc : (s0 :: st).dropLast = s0 :: st.dropLast := List.dropLast_cons_of_ne_nil h0
        rw [hdc] at hinit hst' hdl
        have hst2 : st = st.dropLast ++ [x] := by
          rw [List.cons_append] at hst'
          injection hst'
        have hlast : us.getLastD [] = txt x := by rw [← HST.out, hst2]; simp
        have hdrop : st.dropLast.map txt = us.dropLast := by rw [← HST.out]; simp
        have hus0 : us ≠ [] := by rw [← HST.out]; simpa using h0
        have hn0 : 0 < n' := by rw [← hq]; exact List.length_pos_iff.2 h0
        have hdl2 : st.dropLast.length ≤ 65536 := by simp; omega
        have hrs2 : res = refEv k n us.dropLast (txt x) := by rw [HRS.out, ← hlast]; exact (HQ2.out rfl hus0).symm
        have hxz : x.size ≤ 65536 := HSZ.out x (by rw [hst2]; simp)
        obtain ⟨g', o'', c'', hv, hc2, hcx, A', hsl', htail'⟩ := srw_tail hinit
        injection hv with e1 e2 e3
        injection e1 with e1
        injection e1 with ea eb _
        subst ea
        subst eb
        subst e3
        rw [← e2] at hsl'
        obtain ⟨m', hm'⟩ : ∃ m', st.dropLast.length = m' := ⟨_, rfl⟩
        rw [hm'] at hsl' htail'
        have hx4 := cell_below hx hb24
        have v44 : w4.cell? ⟨w3.heap.size, 4, none⟩ = some (.string ⟨#[]⟩) := (V4.cell 4).trans rfl
        have zv4 := V4.frozen 4
        obtain ⟨w5, hw5⟩ : ∃ w5, w5 = w4.setCell ⟨w3.heap.size, 4, none⟩ (.string x) := ⟨_, rfl⟩
        have s45 : Stays (fun k => k = w3.heap.size) w4 w5 := by rw [hw5]; exact Stays.cell (.refl _ w4) 4 _
        have V5 : Blk w5 w3.heap.size #[.int .i64 (k : Int), .int .i64 0, .int .i64 0, .int .i64 0, .string x] 26 := by rw [hw5]; exact V4.set 4 _
        have B5 := B4.stays s45 (by omega)
        have l5 := l4.trans (s45.below l4.size (fun j hj e => by have e' : j = w3.heap.size := e; omega))
        have hb25 := hb24.trans (s45.below hb24.size (fun j hj e => by have e' : j = w3.heap.size := e; omega))
        have hz35 : w5.heap.size = w3.heap.size + 1 := by rw [hw5]; simpa using hz34
        have HN := numbersR_any (htail'.below hb25) (by omega)
        rw [hdrop] at HN
        have HNN := Lib.hid HN
        have HPL := Lib.hid (show us.dropLast.length ≤ 131072 by rw [← hdrop]; simp; omega)
        have HSL2 := Lib.hid hsl'
        clear hm'
        have HRS2 := Lib.hid hrs2
        have HXZ := Lib.hid hxz
        have HW5 := Lib.hid hw5
        have HINIT := Lib.hid (fun w => init27 ⟨g, o, none⟩ n' c (by omega) w)
        have d1 : decide ((1 : Int) < (n' : Int) + 1) = true := decide_eq_true (by omega)
        have hi1 : (n' : Int) + 1 - 1 = (n' : Int) := by omega
        have hn65 : n' ≤ 65536 := by omega
        have HQQ := Lib.hid hq
        rw [hq]
        clear hrs2 HN HRS HQ0 HQ1 HQ2 S4 T4 hus0 hst' hst2 hlast hdrop hdc hinit hdl hm hsl' htail' hcx hx hxz hw5 e2 s45 hq h0 HSL HSR HTL
        go_upto_region 10 with fail
        rw [← HW5.out]
        clear hx4 v44 zv4
        go_upto_region 11 with (refine wpList_val (o := ⟨some 50, _, _, _, _, _⟩) rfl (Instr.sliceAt 27 _ _ _ _) rfl _ (HINIT.out _) ?_)
        clear hi1 hn65 d1 HINIT HQQ hn0 hdl2
        go_wp2_with (refine wpList_val (o := ⟨some 53, _, _, _, _, _⟩) rfl (Instr.sliceAt 27 _ _ _ _) rfl _ (HSL2.out _) ?_)
        refine HNN.out.mono ?_
        rintro e wa ⟨ba, ha⟩
        have la := l5.trans (ba.mono l5.size)
        have Ba := Blk.below B5 ba
        have Va := Blk.below V5 ba
        have hza := ba.size
        clear HNN
        cases hun : undecAllL us.dropLast with
        | none =>
          rw [hun] at ha
          have hr : res = (evZero, 4) := by rw [HRS2.out]; unfold refEv; rw [hun]
          subst ha
          subst hr
          clear hun HRS2
          go_wp2_with (refine wpList_unit (o := ⟨none, Op.store 26 (.tmp 2) _, _, _, _, _⟩) rfl rfl (Instr.storeAt 26 _ _) rfl (blk_store (c' := #[.int .i64 0, .int .i64 0, .int .i64 0, .int .i64 0, .string ⟨#[]⟩]) Ba size26 rfl rfl) ?_)
          have hB9 := setRow_heap wa w.heap.size _ #[.int .i64 0, .int .i64 0, .int .i64 0, .int .i64 0, .string ⟨#[]⟩] 26 Ba
          have hl9 := la.trans ((setRow_stays wa w.heap.size #[.int .i64 0, .int .i64 0, .int .i64 0, .int .i64 0, .string ⟨#[]⟩]).below la.size (fun j hj e => by have e' : j = w.heap.size := e; omega))
          obtain ⟨w9, hw9⟩ : ∃ w9, w9 = (wa).setRow w.heap.size #[.int .i64 0, .int .i64 0, .int .i64 0, .int .i64 0, .string ⟨#[]⟩] := ⟨_, rfl⟩
          rw [← hw9] at hB9 hl9
          rw [← hw9]
          obtain ⟨y0, y1, y2, y3, y4⟩ := ev_cells hB9
          refine ⟨rfl, .tuple #[evA 0 0 0 0 ⟨#[]⟩, .int .i64 4], ?_, hl9, 0, 0, 0, ⟨#[]⟩, rfl, rfl, rfl⟩
          simp [results, Tryz.results39, go_sem, y0, y1, y2, y3, y4]
        | some l =>
          rw [hun] at ha
          obtain ⟨v', rfl, hrow⟩ := ha
          obtain ⟨pv, cv, rfl⟩ := (nrow_of hrow).form
          have hI := undecAll_i64 hun
          have hrs3 : res = if l.length = n then (if (evTextT k ((l ++ [0, 0, 0]).take 3) (txt x)).2 = 0 then (⟨k, (l ++ [0, 0, 0]).take 3, (txt x)⟩, 0) else (evZero, 4)) else (evZero, 4) := by rw [HRS2.out]; unfold refEv; rw [hun]
          have hll : l.length ≤ 131072 := by
            have h2 := (undecAll_iff.1 hun).2
            have h3 := congrArg List.length h2
            rw [List.length_map] at h3
            have := HPL.out
            omega
          clear hun HRS2
          by_cases hln : l.length = n
          rotate_left
          · have d3 : ((l.length : Int) != (n : Int)) = true := by simp; omega
            have hr : res = (evZero, 4) := by rw [hrs3, if_neg hln]
            subst hr
            clear hln hrs3
            go_wp2_with (refine wpList_unit (o := ⟨none, Op.store 26 (.tmp 2) _, _, _, _, _⟩) rfl rfl (Instr.storeAt 26 _ _) rfl (blk_store (c' := #[.int .i64 0, .int .i64 0, .int .i64 0, .int .i64 0, .string ⟨#[]⟩]) Ba size26 rfl rfl) ?_)
            have hB9 := setRow_heap wa w.heap.size _ #[.int .i64 0, .int .i64 0, .int .i64 0, .int .i64 0, .string ⟨#[]⟩] 26 Ba
            have hl9 := la.trans ((setRow_stays wa w.heap.size #[.int .i64 0, .int .i64 0, .int .i64 0, .int .i64 0, .string ⟨#[]⟩]).below la.size (fun j hj e => by have e' : j = w.heap.size := e; omega))
            obtain ⟨w9, hw9⟩ : ∃ w9, w9 = (wa).setRow w.heap.size #[.int .i64 0, .int .i64 0, .int .i64 0, .int .i64 0, .string ⟨#[]⟩] := ⟨_, rfl⟩
            rw [← hw9] at hB9 hl9
            rw [← hw9]
            obtain ⟨y0, y1, y2, y3, y4⟩ := ev_cells hB9
            refine ⟨rfl, .tuple #[evA 0 0 0 0 ⟨#[]⟩, .int .i64 4], ?_, hl9, 0, 0, 0, ⟨#[]⟩, rfl, rfl, rfl⟩
            simp [results, Tryz.results39, go_sem, y0, y1, y2, y3, y4]
          have d3 : ((l.length : Int) != (n : Int)) = false := by simp [hln]
          rw [if_pos hln] at hrs3
          have hl3 : l.length ≤ 3 := by omega
          have HLN := Lib.hid hln
          obtain ⟨x1, x2, x3, rl, hspl⟩ : ∃ x1 x2 x3 rl, l ++ [0, 0, 0] = x1 :: x2 :: x3 :: rl := by
            match l, hl3 with
            | [], _ => exact ⟨0, 0, 0, _, rfl⟩
            | [a], _ => exact ⟨a, 0, 0, _, rfl⟩
            | [a, b], _ => exact ⟨a, b, 0, _, rfl⟩
            | [a, b, c], _ => exact ⟨a, b, c, _, rfl⟩
          have hI3 : I64 x1 ∧ I64 x2 ∧ I64 x3 := by
            have hm : ∀ y ∈ l ++ [0, 0, 0], I64 y := by
              intro y hy
              rcases List.mem_append.1 hy with h | h
              · exact hI y h
              · have : y = 0 := by simpa using h
                subst this
                exact ⟨by decide, by decide⟩
            rw [hspl] at hm
            exact ⟨hm x1 (by simp), hm x2 (by simp), hm x3 (by simp)⟩
          rw [hspl] at hrs3
          simp only [List.take_succ_cons, List.take_zero] at hrs3
          have HRS3 := Lib.hid hrs3
          have HSPL := Lib.hid hspl
          have hml : (l.length + 3 : Nat) = l.length + 3 := rfl
          clear hln hrs3 hspl hI
          go_upto_region 15 with (at_builtin; refine wpList_append_lies _ rfl _ _ 22 rfl w5.heap.size 3 i0 (.int .i64 0) 1 8 Tryz.underlying22 hi hz0 hz1 hz2 rfl (by decide) _ _ _ rfl (hrow.alloc _) ⟨wa.heap.size, 0, none⟩ 3 3 [.int .i64 0, .int .i64 0, .int .i64 0] rfl rfl (three_new _ _ _ _ _) (by simp [Value.oneCell']) (by decide) (by unfold maxLen; omega) (by omega) (by simp; omega) _ rfl ?_; intro g3 cap3 wb hown3 hgr hat hg3)
          have hne3 : ∀ G, ((Value.slice pv l.length cv).ownBlock = some g3 ∨ g3 = G) → G = wa.heap.size + 1 → g3 ≠ w3.heap.size := by
            rintro G (h | h) hG
            · have := (hrow.lt g3 h).1
              omega
            · omega
          have bb : Below w5.heap.size w5 wb := (ba.alloc hza _).grown hgr (by simp; omega) (fun j hj => (hrow.lt j hj).1)
          have lb := l5.trans (bb.mono l5.size)
          have Bb := Blk.below B5 bb
          have Vb := Blk.below V5 bb
          have hzb := bb.size
          have hxs : (l.map fun n => Value.int .i64 n) ++ [.int .i64 0, .int .i64 0, .int .i64 0] = (l ++ [0, 0, 0]).map fun n => Value.int .i64 n := by simp
          rw [hxs, HSPL.out] at hown3
          have e0 : wb.cell? ⟨g3, 0, none⟩ = some (.int .i64 x1) := (hown3.cellAt 0 (by omega)).trans rfl
          have e1 : wb.cell? ⟨g3, 1, none⟩ = some (.int .i64 x2) := (hown3.cellAt 1 (by omega)).trans rfl
          have e2 : wb.cell? ⟨g3, 2, none⟩ = some (.int .i64 x3) := (hown3.cellAt 2 (by omega)).trans rfl
          have v0 : wb.cell? ⟨w3.heap.size, 0, none⟩ = some (.int .i64 k) := (Vb.cell 0).trans rfl
          have v1 : wb.cell? ⟨w3.heap.size, 1, none⟩ = some (.int .i64 0) := (Vb.cell 1).trans rfl
          have v2 : wb.cell? ⟨w3.heap.size, 2, none⟩ = some (.int .i64 0) := (Vb.cell 2).trans rfl
          have v3 : wb.cell? ⟨w3.heap.size, 3, none⟩ = some (.int .i64 0) := (Vb.cell 3).trans rfl
          have v4 : wb.cell? ⟨w3.heap.size, 4, none⟩ = some (.string x) := (Vb.cell 4).trans rfl
          have z0 := Vb.frozen 0
          have z1 := Vb.frozen 1
          have z2 := Vb.frozen 2
          have z3 := Vb.frozen 3
          have z4 := Vb.frozen 4
          have hg3w : g3 ≠ w3.heap.size := hne3 _ hat (by simp)
          have m0 : 0 < l.length + 3 := by omega
          have m1 : 1 < l.length + 3 := by omega
          have m2 : 2 < l.length + 3 := by omega
          obtain ⟨wc, hwc⟩ : ∃ x, x = ((wb.setCell ⟨w3.heap.size, 1, none⟩ (.int .i64 x1)).setCell ⟨w3.heap.size, 2, none⟩ (.int .i64 x2)).setCell ⟨w3.heap.size, 3, none⟩ (.int .i64 x3) := ⟨_, rfl⟩
          have Vc : Blk wc w3.heap.size #[.int .i64 (k : Int), .int .i64 x1, .int .i64 x2, .int .i64 x3, .string x] 26 := by rw [hwc]; exact ((Vb.set 1 (.int .i64 x1)).set 2 (.int .i64 x2)).set 3 (.int .i64 x3)
          have sc : Stays (fun k => k = w3.heap.size) wb wc := by rw [hwc]; exact ((Stays.cell (.refl _ wb) 1 (.int .i64 x1)).cell 2 (.int .i64 x2)).cell 3 (.int .i64 x3)
          have Bc := Bb.stays sc (by omega)
          have lc := lb.trans (sc.below lb.size (fun j hj e => by have e' : j = w3.heap.size := e; omega))
          obtain ⟨t1, te, htt⟩ : ∃ t1 te, (t1, te) = evTextT k [x1, x2, x3] (txt x) := ⟨_, _, rfl⟩
          have hT := evTextR_any (w := wc) (k := (k : Int)) (s := x) hI3.1 hI3.2.1 hI3.2.2 HXZ.out
          have hte : (evTextT k [x1, x2, x3] (txt x)).2 = te := by rw [← htt]
          have hrs4 : res = if te = 0 then (⟨k, [x1, x2, x3], (txt x)⟩, 0) else (evZero, 4) := by
            rw [HRS3.out]
            by_cases h : te = 0
            · rw [if_pos h]; exact if_pos (hte.trans h)
            · rw [if_neg h]; exact if_neg (fun e => h (hte.symm.trans e))
          rw [← htt] at hT
          have HRS4 := Lib.hid hrs4
          have HT := Lib.hid hT
          clear hT hrs4 htt HRS3 hte
          obtain ⟨y0, y1, y2, y3, y4⟩ := ev_cells Vc
          have HWC := Lib.hid hwc
          clear hwc hown3 hgr hat hg3 hrow Ba Va Vb Bb sc hxs hI3
          go_upto_region 18 with fail
          rw [← HWC.out]
          clear e0 e1 e2 v0 v1 v2 v3 v4 z0 z1 z2 z3 z4
          go_wp2_with fail
          refine HT.out.mono ?_
          rintro e wd ⟨bd, sx, rfl, hsx⟩
          have ld := lc.trans (bd.mono lc.size)
          have Bd := Bc.below bd
          have Vd := Vc.below bd
          clear y0 y1 y2 y3 y4 HT hsx
          obtain ⟨y0, y1, y2, y3, y4⟩ := ev_cells Vd
          simp only
          have hrs4 := HRS4.out
          clear HRS4
          by_cases hte0 : te = 0
          · have d5 : (te != 0) = false := by simp [hte0]
            rw [if_pos hte0] at hrs4
            have hr := Lib.hid hrs4
            clear hte0 hrs4
            go_wp2_with (refine wpList_unit (o := ⟨none, Op.store 26 (.tmp 2) _, _, _, _, _⟩) rfl rfl (Instr.storeAt 26 _ _) rfl (blk_store (c' := #[.int .i64 (k : Int), .int .i64 x1, .int .i64 x2, .int .i64 x3, .string x]) Bd size26 rfl rfl) ?_)
            have hB9 := setRow_heap wd w.heap.size _ #[.int .i64 (k : Int), .int .i64 x1, .int .i64 x2, .int .i64 x3, .string x] 26 Bd
            have hl9 := ld.trans ((setRow_stays wd w.heap.size #[.int .i64 (k : Int), .int .i64 x1, .int .i64 x2, .int .i64 x3, .string x]).below ld.size (fun j hj e => by have e' : j = w.heap.size := e; omega))
            obtain ⟨w9, hw9⟩ : ∃ w9, w9 = wd.setRow w.heap.size #[.int .i64 (k : Int), .int .i64 x1, .int .i64 x2, .int .i64 x3, .string x] := ⟨_, rfl⟩
            rw [← hw9] at hB9 hl9
            rw [← hw9]
            clear y0 y1 y2 y3 y4
            obtain ⟨y0, y1, y2, y3, y4⟩ := ev_cells hB9
            rw [hr.out]
            refine ⟨rfl, .tuple #[evA k x1 x2 x3 x, .int .i64 0], ?_, hl9, x1, x2, x3, x, rfl, rfl, rfl⟩
            simp [results, Tryz.results39, go_sem, y0, y1, y2, y3, y4]
          · have d5 : (te != 0) = true := by simp [hte0]
            rw [if_neg hte0] at hrs4
            subst hrs4
            clear hte0 y0 y1 y2 y3 y4
            go_wp2_with (refine wpList_unit (o := ⟨none, Op.store 26 (.tmp 2) _, _, _, _, _⟩) rfl rfl (Instr.storeAt 26 _ _) rfl (blk_store (c' := #[.int .i64 0, .int .i64 0, .int .i64 0, .int .i64 0, .string ⟨#[]⟩]) Bd size26 rfl rfl) ?_)
            have hB9 := setRow_heap wd w.heap.size _ #[.int .i64 0, .int .i64 0, .int .i64 0, .int .i64 0, .string ⟨#[]⟩] 26 Bd
            have hl9 := ld.trans ((setRow_stays wd w.heap.size #[.int .i64 0, .int .i64 0, .int .i64 0, .int .i64 0, .string ⟨#[]⟩]).below ld.size (fun j hj e => by have e' : j = w.heap.size := e; omega))
            obtain ⟨w9, hw9⟩ : ∃ w9, w9 = (wd).setRow w.heap.size #[.int .i64 0, .int .i64 0, .int .i64 0, .int .i64 0, .string ⟨#[]⟩] := ⟨_, rfl⟩
            rw [← hw9] at hB9 hl9
            rw [← hw9]
            obtain ⟨y0, y1, y2, y3, y4⟩ := ev_cells hB9
            refine ⟨rfl, .tuple #[evA 0 0 0 0 ⟨#[]⟩, .int .i64 4], ?_, hl9, 0, 0, 0, ⟨#[]⟩, rfl, rfl, rfl⟩
            simp [results, Tryz.results39, go_sem, y0, y1, y2, y3, y4]
end Go.Proofs.YtddnmocoaahlfaaGreatDoor
