/-
  The reference's name, exprs, Lines and Words.
  The reference's formed. Conditions: texts of at most 65536 bytes; words of at most 65536 bytes.
-/
import Derived.Test.YtddnmocoaahlfaaGreatDoorZs
import Derived.Test.YtddnmocoaahlfaaGreatDoorY26
import Derived.Test.YtddnmocoaahlfaaGreatDoorZt
import Derived.Test.YtddnmocoaahlfaaGreatDoorY34
import Derived.Test.YtddnmocoaahlfaaGreatDoorZr
import Derived.Deep.OwnRows
set_option linter.unusedVariables false
set_option linter.unusedSimpArgs false
set_option maxRecDepth 100000
set_option maxHeartbeats 8000000
namespace Go.Proofs.YtddnmocoaahlfaaGreatDoor
open Go.RowKit Go.Shelf
theorem let_range {c : UInt8} : isLet c = true ↔ 97 ≤ c.toNat ∧ c.toNat ≤ 122 := by
  unfold isLet
  simp only [Bool.and_eq_true, decide_eq_true_eq, UInt8.le_iff_toNat_le]
  exact Iff.rfl
set_option maxHeartbeats 4000000 in
theorem nameR_any (s : ByteArray) (w : World) (hs : s.size ≤ 281474976710656) : Calls Tryz.prog 130 #[.string s] w (fun e w' => e = .returned (.bool (isNameL (txt s))) ∧ w' = w) := by
  obtain ⟨res, hres⟩ : ∃ res, res = isNameL (txt s) := ⟨_, rfl⟩
  rw [← hres]
  have HS := Lib.hid hres
  have HSZ := Lib.hid (show (txt s).length = s.size by simp)
  clear hres
  go_enter Tryz.func130, Tryz.ntmps130
  go_wp2_with fail
  go_loop [3] (fun t => ∃ m : Nat, m ≤ s.size ∧ t = .int .i64 m ∧ ((txt s).take m).all isLet = true) (fun t => s.size - (intOf t).toNat)
  case atStart => exact ⟨0, Nat.zero_le _, rfl, by simp⟩
  case round =>
    obtain ⟨m, hm, rfl, hc⟩ := hrel
    have HC := Lib.hid hc
    clear hc
    by_cases hl : m < s.size
    · have hml : m < (txt s).length := by rw [HSZ.out]; exact hl
      have hst : (txt s).take (m + 1) = (txt s).take m ++ [s[m]] := by rw [List.take_succ_eq_append_getElem hml, byte_get hl]
      have hmem : s[m] ∈ txt s := by rw [← byte_get hl]; exact List.getElem_mem _
      have HST := Lib.hid hst
      have HM := Lib.hid hmem
      clear hst hmem
      by_cases hb : isLet s[m] = true
      · have hr := let_range.1 hb
        have e1 : decide (((s[m]).toNat : Int) < 97) = false := decide_eq_false (by omega)
        have e2 : decide ((122 : Int) < ((s[m]).toNat : Int)) = false := decide_eq_false (by omega)
        have HB := Lib.hid hb
        clear hb
        go_wp2_with fail
        go_round
        case rel => exact ⟨m + 1, by omega, by go_num, by rw [HST.out, List.all_append, HC.out]; simp [HB.out]⟩
        case measure => simp [intOf]; omega
      · have hr : res = false := by
          rw [HS.out]
          unfold isNameL
          have : (txt s).all isLet = false := by
            rw [Bool.eq_false_iff]
            intro h
            rw [List.all_eq_true] at h
            exact hb (h _ HM.out)
          rw [this, Bool.and_false]
        subst hr
        have hr2 := mt let_range.2 hb
        rcases Nat.lt_or_ge (s[m]).toNat 97 with h | h
        · have e1 : decide (((s[m]).toNat : Int) < 97) = true := decide_eq_true (by omega)
          clear hb hr2
          go_wp2_with fail
          go_ret
          exact ⟨rfl, rfl⟩
        · have e1 : decide (((s[m]).toNat : Int) < 97) = false := decide_eq_false (by omega)
          have e2 : decide ((122 : Int) < ((s[m]).toNat : Int)) = true := decide_eq_true (by omega)
          clear hb hr2
          go_wp2_with fail
          go_ret
          exact ⟨rfl, rfl⟩
    · have hms : m = s.size := by omega
      have hall : (txt s).all isLet = true := by
        have h := HC.out
        rw [hms, ← HSZ.out, List.take_length] at h
        exact h
      have hr : res = (decide (1 ≤ s.size) && decide (s.size ≤ 16)) := by
        rw [HS.out]; unfold isNameL; rw [hall, HSZ.out, Bool.and_true]
      have HR := Lib.hid hr
      clear hall hr
      by_cases h1 : 1 ≤ s.size
      · have d1 : decide ((0 : Int) < (s.size : Int)) = true := decide_eq_true (by omega)
        by_cases h2 : s.size ≤ 16
        · have d2 : decide ((s.size : Int) ≤ 16) = true := decide_eq_true (by omega)
          have hr : res = true := by rw [HR.out]; simp [h1, h2]
          subst hr
          go_wp2_with fail
          go_ret
          exact ⟨rfl, rfl⟩
        · have d2 : decide ((s.size : Int) ≤ 16) = false := decide_eq_false (by omega)
          have hr : res = false := by rw [HR.out]; simp [h2]
          subst hr
          go_wp2_with fail
          go_ret
          exact ⟨rfl, rfl⟩
      · have d1 : decide ((0 : Int) < (s.size : Int)) = false := decide_eq_false (by omega)
        have hr : res = false := by rw [HR.out]; simp [h1]
        subst hr
        go_wp2_with fail
        go_ret
        exact ⟨rfl, rfl⟩
theorem evalT_four (t : List UInt8) (σ : List UInt8 → Option Int) : ((evalT t σ).2 == 4) = !(parseE t).isSome := by
  unfold evalT
  cases parseE t with
  | none => rfl
  | some x =>
    simp only
    cases h : x.eval σ with
    | ok v => rfl
    | error e => rcases eval_err h with rfl | rfl <;> rfl
theorem all_take_succ {ss : List ByteArray} {p : List UInt8 → Bool} {i : Nat} (hi : i < ss.length) (h : ((ss.take i).map txt).all p = true) (hp : p (txt ss[i]) = true) : ((ss.take (i + 1)).map txt).all p = true := by
  rw [List.take_succ_eq_append_getElem hi, List.map_append, List.all_append, h]
  simp [hp]
set_option maxHeartbeats 4000000 in
theorem exprsR_any {w : World} {v : Value} {ss : List ByteArray} (hr : SRw w v ss) (hl : ss.length ≤ 131072) (hz : ∀ x ∈ ss, x.size ≤ 65536) : Calls Tryz.prog 131 #[v] w (fun e w' => e = .returned (.bool (okAll (ss.map txt))) ∧ Below w.heap.size w w') := by
  obtain ⟨p, c, rfl⟩ := hr.form
  obtain ⟨res, hres⟩ : ∃ res, res = okAll (ss.map txt) := ⟨_, rfl⟩
  rw [← hres]
  have HR := Lib.hid hr
  have HRES := Lib.hid hres
  have HZ := Lib.hid hz
  clear hr hres hz
  go_enter Tryz.func131, Tryz.ntmps131
  go_wp2_with fail
  go_loopw [3] (fun t wr => ∃ i : Nat, t = .int .i64 i ∧ i ≤ ss.length ∧ Below w.heap.size w wr ∧ okAll ((ss.take i).map txt) = true) (fun t wr => ss.length - (intOf t).toNat)
  case atStart => exact ⟨0, rfl, Nat.zero_le _, Below.refl _ _, rfl⟩
  case round =>
    obtain ⟨i, rfl, hi, hb, hok⟩ := hrel
    have HOK := Lib.hid hok
    have hzr := hb.size
    clear hok
    by_cases hlt : i < ss.length
    · obtain ⟨L, o, rfl, hc⟩ := srw_get HR.out hlt
      have hcap : ss.length ≤ c := (srw_cap HR.out).resolve_left (fun e => by rw [e] at hlt; simp at hlt)
      have k1 := cell_below hc hb
      have hx := HZ.out _ (List.getElem_mem hlt)
      have HX := Lib.hid (show ∀ x, x = ss[i] → (parseE (txt x)).isSome = true → okAll ((ss.take (i + 1)).map txt) = true from fun x hx h => all_take_succ hlt HOK.out (by rw [← hx]; exact h))
      have HY := Lib.hid (show ∀ x, x = ss[i] → (parseE (txt x)).isSome = false → res = false from fun x hx h => by
        rw [HRES.out, Bool.eq_false_iff]
        intro hall
        have := List.all_eq_true.1 hall (txt x) (List.mem_map.2 ⟨x, by rw [hx]; exact List.getElem_mem hlt, rfl⟩)
        rw [h] at this; cases this)
      obtain ⟨x, hxe⟩ : ∃ x, x = ss[i] := ⟨_, rfl⟩
      rw [← hxe] at k1 hx
      have HXE := Lib.hid hxe
      have HE := Lib.hid (evalR_any (w := wr) (s := x) (na := none) (nl := 0) (nc := 0) (va := none) (vl := 0) (vc := 0) (ns := []) (vs := []) ⟨.inl ⟨rfl, _, _, rfl⟩, .inl ⟨rfl, _, _, rfl⟩, hx, by decide, by decide, rfl, rfl⟩)
      have h4 := evalT_four (txt x) (scopeOf [] [])
      clear hc hxe
      obtain ⟨r, hrr⟩ : ∃ r, r = evalT (txt x) (scopeOf [] []) := ⟨_, rfl⟩
      rw [← hrr] at HE h4
      clear hrr
      obtain ⟨n, e⟩ := r
      simp only at h4
      go_wp2_with fail
      refine HE.out.mono ?_
      rintro ex w2 ⟨b2, rfl⟩
      have hb2 := hb.trans (b2.mono hzr)
      cases hs : (parseE (txt x)).isSome with
      | true =>
        rw [hs] at h4
        have h4' : (e == 4) = false := h4
        have HN := Lib.hid (HX.out x HXE.out hs)
        clear h4 hs HX HY HE
        go_wp2_with fail
        go_roundw
        case rel => exact ⟨i + 1, by go_num, by omega, hb2, HN.out⟩
        case measure => simp [intOf]; omega
      | false =>
        rw [hs] at h4
        have h4' : (e == 4) = true := h4
        have hr := HY.out x HXE.out hs
        subst hr
        clear h4 hs HX HY HE
        go_wp2_with fail
        go_ret
        exact ⟨rfl, hb2⟩
    · have hil : i = ss.length := by omega
      have hr : res = true := by
        have := HOK.out
        rw [hil, List.take_length] at this
        rw [HRES.out]; exact this
      subst hr
      go_wp2_with fail
      go_ret
      exact ⟨rfl, hb⟩
def RetRow (w : World) (l : List (List UInt8)) (e : Ending) (w' : World) : Prop := Below w.heap.size w w' ∧ ∃ (v : Value) (ss : List ByteArray), e = .returned v ∧ SRw w' v ss ∧ ss.map txt = l ∧ ∀ L o m c, v = .slice (some ⟨L, o, none⟩) m c → w.heap.size ≤ L
theorem own_low {w : World} {b : Nat} {v : Value} {n : Nat} {xs : List Value} (h : w.ownsRow b 9 1 v n xs) : ∀ L o m c, v = .slice (some ⟨L, o, none⟩) m c → b ≤ L := fun L o m c e => by
  rcases h.2 with ⟨h, _⟩ | ⟨g, cap, cur, h, hb, _⟩
  · rw [h] at e; cases e
  · rw [h] at e; injection e with e _ _; injection e with e; injection e with e _ _; omega
set_option maxHeartbeats 4000000 in
theorem linesR_any {w : World} (s : ByteArray) (hs : s.size ≤ 65536) : Calls Tryz.prog 106 #[.string s] w (RetRow w (linesL (txt s))) := by
  have HP := Lib.hid (partsR_any (w := w) s 10 (by omega))
  obtain ⟨l, hl⟩ : ∃ l, l = linesL (txt s) := ⟨_, rfl⟩
  rw [← hl]
  have HL := Lib.hid hl
  clear hl
  go_enter Tryz.func106, Tryz.ntmps106
  go_wp2_with fail
  refine HP.out.mono ?_
  rintro e w1 ⟨b1, v, ss, rfl, hown, htx⟩
  have hlow := own_low hown
  have hsr := (srow_of hown).rw
  obtain ⟨p, c, rfl⟩ := hsr.form
  have hne : ss ≠ [] := by
    rintro rfl
    exact cutAt_ne 10 _ htx.symm
  obtain ⟨L, o, n, x, rfl, hn, hc, hss, hdl, hcx, hinit⟩ := srw_last hsr hne
  have hll : linesL (txt s) = if txt x = [] then (ss.map txt).dropLast else ss.map txt := by
    unfold linesL
    simp only
    rw [← htx]
    have : (ss.map txt).getLastD [] = txt x := by rw [hss]; simp
    rw [this]
  have HLL := Lib.hid hll
  have HTX := Lib.hid htx
  have HSS := Lib.hid hss
  have HSR := Lib.hid hsr
  have HLOW := Lib.hid hlow
  have HIN := Lib.hid hinit
  have HDL := Lib.hid hdl
  have HB := Lib.hid b1
  obtain ⟨m, hm⟩ : ∃ m, m = ss.length := ⟨_, rfl⟩
  rw [← hm] at hn HSR HLOW ⊢
  subst hn
  have hn65 : n ≤ 65536 := by
    have h1 := (cut_len 10 (txt s)).2
    rw [← htx, List.length_map, ← hm] at h1
    have h2 : (txt s).length = s.size := by simp
    omega
  clear hll htx hss hsr hlow hinit hdl hown HP b1 hne hm
  by_cases h0 : txt x = []
  · have d0 : (x.toList == []) = true := by rw [ByteArray.toList_eq]; exact beq_iff_eq.2 h0
    have d2 : x.toList.isEmpty = true := by rw [ByteArray.toList_eq]; exact List.isEmpty_iff.2 h0
    have D2 := Lib.hid h0
    clear h0
    go_wp2_with (first | (refine wpList_val (o := ⟨some 17, _, _, _, _, _⟩) rfl (Instr.sliceAt 27 _ _ _ _) rfl _ (init27 _ n c (by omega) _) ?_) | fail)
    go_ret
    refine ⟨HB.out, _, ss.dropLast, rfl, HIN.out, ?_, fun L' o' m' c' e => ?_⟩
    · rw [HL.out, HLL.out, if_pos D2.out, List.map_dropLast]
    · injection e with e _ _
      injection e with e
      injection e with e _ _
      subst e
      exact HLOW.out _ _ _ _ rfl
  · have d0 : (x.toList == []) = false := by rw [ByteArray.toList_eq]; exact beq_eq_false_iff_ne.2 h0
    have d2 : x.toList.isEmpty = false := by rw [ByteArray.toList_eq, List.isEmpty_eq_false_iff]; exact h0
    have D2 := Lib.hid h0
    clear h0
    go_wp2_with fail
    go_ret
    exact ⟨HB.out, _, ss, rfl, HSR.out, by rw [HL.out, HLL.out, if_neg D2.out], HLOW.out⟩
theorem words_succ {ls : List ByteArray} {i : Nat} (hi : i < ls.length) : ((ls.map txt).take (i + 1)).filter (· ≠ []) = ((ls.map txt).take i).filter (· ≠ []) ++ if txt ls[i] = [] then [] else [txt ls[i]] := by
  rw [List.take_succ_eq_append_getElem (by rw [List.length_map]; exact hi), List.filter_append, List.getElem_map]
  congr 1
  by_cases h : txt ls[i] = []
  · simp [h]
  · simp [h]
theorem wordsR_any {w : World} (s : ByteArray) (hs : s.size ≤ 65536) : Calls Tryz.prog 107 #[.string s] w (RetSs w (wordsL (txt s))) := by
  obtain ⟨i0, hi0, hz0, hz1, hz2⟩ := info_parts info9
  have hcl := cut_len 32 (txt s)
  have hsz : (txt s).length = s.size := by simp
  have HP := Lib.hid (partsR_any (w := w) s 32 (by omega))
  obtain ⟨l, hl⟩ : ∃ l, l = wordsL (txt s) := ⟨_, rfl⟩
  rw [← hl]
  have HL := Lib.hid hl
  have HCL := Lib.hid hcl
  clear hl hcl
  go_enter Tryz.func107, Tryz.ntmps107
  go_wp2_with fail
  refine HP.out.mono ?_
  rintro e w1 ⟨b1, v, ls, rfl, hown, htx⟩
  have hsr := (srow_of hown).rw
  obtain ⟨p, c, rfl⟩ := hsr.form
  have hll : ls.length ≤ 65537 := by
    have h1 := HCL.out.2
    rw [← htx, List.length_map] at h1
    omega
  have HSR := Lib.hid hsr
  have HTX := Lib.hid htx
  have hw1 := b1.size
  have HB1 := Lib.hid b1
  clear hsr htx hown HP HCL hsz b1
  go_wp2_with fail
  go_loopw [5, 3] (fun t t3 wr => ∃ (i : Nat) (ss : List ByteArray), t = .int .i64 i ∧ i ≤ ls.length ∧ wr.ownsRow w1.heap.size 9 1 t3 ss.length (ss.map Value.string) ∧ ss.length ≤ i ∧ Below w1.heap.size w1 wr ∧ ss.map txt = ((ls.map txt).take i).filter (· ≠ [])) (fun t t3 wr => ls.length - (intOf t).toNat)
  case atStart => exact ⟨0, [], rfl, Nat.zero_le _, World.ownsRow_nil _ _ _ _, Nat.le_refl _, Below.refl _ _, by simp⟩
  case round =>
    obtain ⟨i, ss, rfl, hi, hown, hsl, hbl, hst⟩ := hrel
    have hszr := hbl.size
    have HST := Lib.hid hst
    clear hst
    by_cases hlt : i < ls.length
    · obtain ⟨L, o, rfl, hc⟩ := srw_get HSR.out hlt
      have hcap : ls.length ≤ c := (srw_cap HSR.out).resolve_left (fun e => by rw [e] at hlt; simp at hlt)
      have k1 := cell_below hc hbl
      have hlL : L < wr.heap.size := World.block_lt_of_cell? wr _ k1
      have HS := Lib.hid (show ∀ x, x = ls[i] → ((ls.map txt).take (i + 1)).filter (· ≠ []) = ss.map txt ++ if txt x = [] then [] else [txt x] from fun x hx => by rw [hx, HST.out]; exact words_succ hlt)
      obtain ⟨x, hx⟩ : ∃ x, x = ls[i] := ⟨_, rfl⟩
      rw [← hx] at k1
      have hS := HS.out x hx
      have HS2 := Lib.hid hS
      clear hc hx HS hS HST
      by_cases h0 : txt x = []
      · have d0 : (x.toList == []) = true := by rw [ByteArray.toList_eq]; exact beq_iff_eq.2 h0
        have d2 : x.toList.isEmpty = true := by rw [ByteArray.toList_eq]; exact List.isEmpty_iff.2 h0
        have D2 := Lib.hid h0
        clear h0
        go_wp2_with fail
        go_roundw
        case rel => exact ⟨i + 1, ss, by go_num, by omega, hown, by omega, hbl, by rw [HS2.out, if_pos D2.out, List.append_nil]⟩
        case measure => simp [intOf]; omega
      · have d0 : (x.toList == []) = false := by rw [ByteArray.toList_eq]; exact beq_eq_false_iff_ne.2 h0
        have d2 : x.toList.isEmpty = false := by rw [ByteArray.toList_eq, List.isEmpty_eq_false_iff]; exact h0
        have D2 := Lib.hid h0
        clear h0
        go_wp2_with (at_builtin; refine wpList_append_lies _ rfl _ _ 27 rfl w1.heap.size 9 i0 (.string ⟨#[]⟩) 1 16 Tryz.underlying27 hi0 hz0 hz1 hz2 rfl (by decide) _ _ _ rfl (hown.alloc _) ⟨wr.heap.size, 0, none⟩ 1 1 [.string x] rfl rfl (one_new _ _ _) (by simp [Value.oneCell']) (by decide) (by unfold maxLen; omega) (by omega) (by simp; omega) _ rfl ?_; intro g cap2 w2 hown2 hgr hat hg2)
        have hbl2 : Below w1.heap.size w1 w2 := (hbl.alloc hszr _).grown hgr (by simp; omega) (fun j hj => (hown.lt j hj).1)
        go_wp2_with fail
        go_roundw
        case rel => exact ⟨i + 1, ss ++ [x], by go_num, by omega, by simpa using hown2, by simp; omega, hbl2, by rw [HS2.out, if_neg D2.out]; simp⟩
        case measure => simp [intOf]; omega
    · have hil : i = ls.length := by omega
      have heq : ss.map txt = l := by
        rw [HST.out, hil, HL.out]
        unfold wordsL
        rw [HTX.out, ← HTX.out, List.take_of_length_le (by rw [List.length_map]; omega), HTX.out]
      have HEQ := Lib.hid heq
      clear heq HST
      go_wp2_with fail
      go_ret
      exact ⟨HB1.out.trans (hbl.mono hw1), _, ss, rfl, row_base hown hw1, HEQ.out⟩
end Go.Proofs.YtddnmocoaahlfaaGreatDoor
namespace Go.Proofs.YtddnmocoaahlfaaGreatDoor
open Go.RowKit Go.Shelf
theorem tail27_2 (g o m c : Nat) (hc : m + 2 ≤ c) : ∃ A : Addr, (m ≠ 0 → A = ⟨g, o + 2, none⟩) ∧ ∀ w, (Instr.sliceAt 27 (.slice (some ⟨g, o, none⟩) (m + 2) c) (some (.int .i64 2)) none none).run Tryz.prog w = .ok (.slice (some A) m (c - 2)) w := by
  by_cases h1 : c = 2
  · subst h1
    refine ⟨⟨g, o, none⟩, fun h => by omega, fun w => ?_⟩
    rw [run_sliceAt_slice w 27 _ _ _ _ elem27, run_slice_l w 27 _ _ _ elem27 _ _ (by decide) (by omega), elemz27]
    simp [Result.andThen, sliced]
  · refine ⟨⟨g, o + 2, none⟩, fun _ => rfl, fun w => ?_⟩
    rw [run_sliceAt_slice w 27 _ _ _ _ elem27, run_slice_l w 27 _ _ _ elem27 _ _ (by decide) (by omega), elemz27]
    have h2 : (2 : Int).toNat = 2 := rfl
    have h3 : ¬ c ≤ 2 := by omega
    have h4 : c ≠ 2 := h1
    have h5 : m + 2 - 2 = m := by omega
    simp [Result.andThen, sliced, h1, h2, Addr.add]
theorem srw_tail2 {w : World} {g o n c : Nat} {s x : ByteArray} {st : List ByteArray} (h : SRw w (.slice (some ⟨g, o, none⟩) n c) (s :: x :: st)) :
    ∃ A : Addr, (∀ w, (Instr.sliceAt 27 (.slice (some ⟨g, o, none⟩) (st.length + 2) c) (some (.int .i64 2)) none none).run Tryz.prog w = .ok (.slice (some A) st.length (c - 2)) w) ∧ SRw w (.slice (some A) st.length (c - 2)) st := by
  rcases h with ⟨h0, _⟩ | ⟨_, g', o', c', h1, h2, h3⟩
  · cases h0
  · injection h1 with h1 hn hc
    injection h1 with h1
    injection h1 with h1 ho _
    subst h1
    subst ho
    subst hc
    simp only [List.length_cons] at h2
    obtain ⟨A, hA, hs⟩ := tail27_2 g o st.length c (by omega)
    refine ⟨A, hs, ?_⟩
    by_cases hst : st = []
    · subst hst; exact .inl ⟨rfl, _, _, rfl⟩
    · refine .inr ⟨hst, g, o + 2, c - 2, by rw [hA (fun e => hst (List.length_eq_zero_iff.1 e))], by omega, fun j hj => ?_⟩
      have := h3 (j + 2) (by simp; omega)
      rw [show o + 2 + j = o + (j + 2) by omega, this]
      rfl
theorem make22 (n : Nat) (hn : n ≤ 1000000) (w : World) : (Instr.makeSlice 22 (.int .i64 (n : Int)) (.int .i64 (n : Int))).run Tryz.prog w = .ok (.slice (some ⟨w.heap.size, 0, none⟩) n n) (w.alloc (.cells (madeCells #[.int .i64 0] n) 3)) :=
  run_make_row' 22 3 (.int .i64 0) 8 Tryz.underlying22 info3 rfl .i64 .i64 n (by omega) (by omega) w
theorem made_get (n i : Nat) (hi : i < n) : (madeCells #[Value.int .i64 0] n)[i]? = some (.int .i64 0) := by simp [madeCells, hi, Nat.mod_one]
theorem nrow_zeros (w : World) (n : Nat) : NRow (w.alloc (.cells (madeCells #[.int .i64 0] n) 3)) (.slice (some ⟨w.heap.size, 0, none⟩) n n) (List.replicate n 0) := by
  by_cases h : n = 0
  · subst h; exact .inl ⟨rfl, _, _, rfl⟩
  · refine .inr ⟨by simp [h], w.heap.size, 0, n, by simp, by simp, fun j hj => ?_⟩
    rw [Nat.zero_add, (Blk.new w _ _).cell j, made_get n j (by simpa using hj)]
    simp
theorem takes_eq {k n : Nat} (h0 : k ≠ 0) (h17 : k ≤ 17) : takesR k n = takes k n := by
  have : ∀ j : Fin 17, (refWord ((j.val + 1 : Nat) : Int)).2 = fieldsOf (j.val + 1) := by decide
  have := this ⟨k - 1, by omega⟩
  simp only at this
  rw [show k - 1 + 1 = k by omega] at this
  unfold takesR takes
  rw [this]
theorem actOf_le2 (w : List UInt8) : actOfL w ≤ 17 := by
  unfold actOfL
  cases h : actWords.findIdx? (·.1 == w) with
  | none => simp
  | some i =>
    have := (List.findIdx?_eq_some_iff_getElem.1 h).1
    simp only [Option.elim_some]
    have h17 : actWords.length = 17 := rfl
    omega
theorem formedR_any {w : World} {v : Value} {s0 : ByteArray} {st : List ByteArray} (hr : SRw w v (s0 :: st)) (hl : st.length ≤ 65537) (hz : ∀ x ∈ s0 :: st, x.size ≤ 65536) : Calls Tryz.prog 108 #[v] w (fun e w' => e = .returned (.bool (fmdL (txt s0) (st.map txt))) ∧ Below w.heap.size w w') := by
  obtain ⟨g, o, c, rfl, hc, hc0, A, hsl, htail⟩ := srw_tail hr
  obtain ⟨res, hres⟩ : ∃ res, res = fmdL (txt s0) (st.map txt) := ⟨_, rfl⟩
  rw [← hres]
  have HRES := Lib.hid hres
  have HZ := Lib.hid hz
  have HSR := Lib.hid hr
  have HSL := Lib.hid hsl
  have HTL := Lib.hid htail
  clear hres hz hr hsl htail
  go_enter Tryz.func108, Tryz.ntmps108
  go_upto_region 2 with fail
  by_cases hsLet : txt s0 = sLet
  · have fsLet : (s0.toList == [108, 101, 116]) = true := (lit_str s0 sLet).trans (decide_eq_true hsLet)
    have hres2 : res = (decide (st.length = 2) && (isNameL ((st.map txt).headD []) && okAll (st.map txt).tail)) := by rw [HRES.out, hsLet, fmd_let, List.length_map]
    have HR2 := Lib.hid hres2
    clear hres2 HRES  hsLet
    by_cases hn : st.length = 2
    rotate_left
    · have d1 : (((st.length : Int) + 1) == 3) = false := by simp; omega
      have hr : res = false := by rw [HR2.out, decide_eq_false hn]; rfl
      subst hr
      clear hn HR2
      go_wp2_with fail
      go_ret
      exact ⟨rfl, Below.refl _ _⟩
    obtain ⟨x, y0, rfl⟩ : ∃ x y0, st = [x, y0] := by
      match st, hn with
      | [x, y0], _ => exact ⟨x, y0, rfl⟩
    have hcx : w.cell? ⟨g, o + 1, none⟩ = some (.string x) := by
      obtain ⟨L', o', e', h⟩ := srw_get HSR.out (i := 1) (by simp)
      cases e'
      exact h
    obtain ⟨A2, hs2, ht2⟩ := srw_tail2 HSR.out
    have HS2 := Lib.hid hs2
    have hxz : x.size ≤ 65536 := HZ.out x (by simp)
    have HN := Lib.hid (nameR_any x w (by omega))
    have HX := Lib.hid (exprsR_any ht2 (by simp) (fun y hy => HZ.out y (by simp at hy ⊢; simp [hy])))
    have hr3 : res = (isNameL (txt x) && okAll ([y0].map txt)) := by rw [HR2.out]; rfl
    have HR3 := Lib.hid hr3
    rw [show ([x, y0] : List ByteArray).length + 1 = 3 from rfl] at *
    rw [show ([y0] : List ByteArray).length = 1 from rfl] at *
    clear hs2 ht2 hn hr3 HR2
    cases hnm : isNameL (txt x) with
    | false =>
      rw [hnm] at HN
      have hr : res = false := by rw [HR3.out, hnm]; rfl
      subst hr
      clear hnm HR3
      go_wp2_with fail
      refine HN.out.mono ?_
      rintro ex w2 ⟨rfl, hw⟩
      rw [hw]
      clear hw
      go_wp2_with fail
      go_ret
      exact ⟨rfl, Below.refl _ _⟩
    | true =>
      rw [hnm] at HN
      have hr : res = okAll ([y0].map txt) := by rw [HR3.out, hnm]; rfl
      rw [← hr] at HX
      clear hnm HR3 hr
      go_wp2_with fail
      refine HN.out.mono ?_
      rintro ex w2 ⟨rfl, hw⟩
      rw [hw]
      clear hw
      go_wp2_with (first | (refine wpList_valG (o := ⟨some 22, _, _, _, _, _⟩) rfl (Instr.sliceAt 27 _ _ _ _) rfl _ (HS2.out _) ?_) | fail)
      refine HX.out.mono ?_
      rintro ex w3 ⟨rfl, b3⟩
      go_wp2_with fail
      go_ret
      exact ⟨rfl, b3⟩
  by_cases hsFor : txt s0 = sFor
  · have fsLet : (s0.toList == [108, 101, 116]) = false := (lit_str s0 sLet).trans (decide_eq_false hsLet)
    have fsFor : (s0.toList == [102, 111, 114]) = true := (lit_str s0 sFor).trans (decide_eq_true hsFor)
    have hres2 : res = (decide (st.length = 3) && (isNameL ((st.map txt).headD []) && okAll (st.map txt).tail)) := by rw [HRES.out, hsFor, fmd_for, List.length_map]
    have HR2 := Lib.hid hres2
    clear hres2 HRES hsLet hsFor
    by_cases hn : st.length = 3
    rotate_left
    · have d1 : (((st.length : Int) + 1) == 4) = false := by simp; omega
      have hr : res = false := by rw [HR2.out, decide_eq_false hn]; rfl
      subst hr
      clear hn HR2
      go_wp2_with fail
      go_ret
      exact ⟨rfl, Below.refl _ _⟩
    obtain ⟨x, y0, y1, rfl⟩ : ∃ x y0 y1, st = [x, y0, y1] := by
      match st, hn with
      | [x, y0, y1], _ => exact ⟨x, y0, y1, rfl⟩
    have hcx : w.cell? ⟨g, o + 1, none⟩ = some (.string x) := by
      obtain ⟨L', o', e', h⟩ := srw_get HSR.out (i := 1) (by simp)
      cases e'
      exact h
    obtain ⟨A2, hs2, ht2⟩ := srw_tail2 HSR.out
    have HS2 := Lib.hid hs2
    have hxz : x.size ≤ 65536 := HZ.out x (by simp)
    have HN := Lib.hid (nameR_any x w (by omega))
    have HX := Lib.hid (exprsR_any ht2 (by simp) (fun y hy => HZ.out y (by simp at hy ⊢; simp [hy])))
    have hr3 : res = (isNameL (txt x) && okAll ([y0, y1].map txt)) := by rw [HR2.out]; rfl
    have HR3 := Lib.hid hr3
    rw [show ([x, y0, y1] : List ByteArray).length + 1 = 4 from rfl] at *
    rw [show ([y0, y1] : List ByteArray).length = 2 from rfl] at *
    clear hs2 ht2 hn hr3 HR2
    cases hnm : isNameL (txt x) with
    | false =>
      rw [hnm] at HN
      have hr : res = false := by rw [HR3.out, hnm]; rfl
      subst hr
      clear hnm HR3
      go_wp2_with fail
      refine HN.out.mono ?_
      rintro ex w2 ⟨rfl, hw⟩
      rw [hw]
      clear hw
      go_wp2_with fail
      go_ret
      exact ⟨rfl, Below.refl _ _⟩
    | true =>
      rw [hnm] at HN
      have hr : res = okAll ([y0, y1].map txt) := by rw [HR3.out, hnm]; rfl
      rw [← hr] at HX
      clear hnm HR3 hr
      go_wp2_with fail
      refine HN.out.mono ?_
      rintro ex w2 ⟨rfl, hw⟩
      rw [hw]
      clear hw
      go_wp2_with (first | (refine wpList_valG (o := ⟨some 38, _, _, _, _, _⟩) rfl (Instr.sliceAt 27 _ _ _ _) rfl _ (HS2.out _) ?_) | fail)
      refine HX.out.mono ?_
      rintro ex w3 ⟨rfl, b3⟩
      go_wp2_with fail
      go_ret
      exact ⟨rfl, b3⟩
  by_cases hsIf : txt s0 = sIf
  · have fsLet : (s0.toList == [108, 101, 116]) = false := (lit_str s0 sLet).trans (decide_eq_false hsLet)
    have fsFor : (s0.toList == [102, 111, 114]) = false := (lit_str s0 sFor).trans (decide_eq_false hsFor)
    have fsIf : (s0.toList == [105, 102]) = true := (lit_str s0 sIf).trans (decide_eq_true hsIf)
    have hres2 : res = (decide (st.length = 1) && okAll (st.map txt)) := by rw [HRES.out, hsIf, fmd_if, List.length_map]
    have HR2 := Lib.hid hres2
    clear hres2 HRES hsLet hsFor hsIf
    by_cases hn : st.length = 1
    rotate_left
    · have d1 : (((st.length : Int) + 1) == 2) = false := by simp; omega
      have hr : res = false := by rw [HR2.out, decide_eq_false hn]; rfl
      subst hr
      clear hn HR2
      go_wp2_with fail
      go_ret
      exact ⟨rfl, Below.refl _ _⟩
    have d1 : (((st.length : Int) + 1) == 2) = true := by simp; omega
    have hr : res = okAll (st.map txt) := by rw [HR2.out, decide_eq_true hn]; rfl
    have HX := Lib.hid (exprsR_any HTL.out (by omega) (fun y hy => HZ.out y (by simp [hy])))
    rw [← hr] at HX
    clear hr HR2 hn
    go_wp2_with (first | (refine wpList_valG (o := ⟨some 48, _, _, _, _, _⟩) rfl (Instr.sliceAt 27 _ _ _ _) rfl _ (HSL.out _) ?_) | fail)
    refine HX.out.mono ?_
    rintro ex w3 ⟨rfl, b3⟩
    go_wp2_with fail
    go_ret
    exact ⟨rfl, b3⟩
  by_cases hend : txt s0 = sElse ∨ txt s0 = sEnd
  · have fsLet : (s0.toList == [108, 101, 116]) = false := (lit_str s0 sLet).trans (decide_eq_false hsLet)
    have fsFor : (s0.toList == [102, 111, 114]) = false := (lit_str s0 sFor).trans (decide_eq_false hsFor)
    have fsIf : (s0.toList == [105, 102]) = false := (lit_str s0 sIf).trans (decide_eq_false hsIf)
    have hr : res = decide (st.length = 0) := by rw [HRES.out, fmd_end _ hend, List.length_map]
    have d1 : (((st.length : Int) + 1) == 1) = decide (st.length = 0) := by
      by_cases h : st.length = 0
      · rw [decide_eq_true h, h]; rfl
      · rw [decide_eq_false h]; simp; omega
    rw [← hr] at d1
    clear HRES hr hsLet hsFor hsIf
    rcases hend with hsElse | hsEnd
    · have fsElse : (s0.toList == [101, 108, 115, 101]) = true := (lit_str s0 sElse).trans (decide_eq_true hsElse)
      clear hsElse
      go_wp2_with fail
      go_ret
      exact ⟨rfl, Below.refl _ _⟩
    · have fsElse : (s0.toList == [101, 108, 115, 101]) = false := (lit_str s0 sElse).trans (decide_eq_false (by rw [hsEnd]; decide))
      have fsEnd : (s0.toList == [101, 110, 100]) = true := (lit_str s0 sEnd).trans (decide_eq_true hsEnd)
      clear hsEnd
      go_wp2_with fail
      go_ret
      exact ⟨rfl, Below.refl _ _⟩
  have hsElse : txt s0 ≠ sElse := fun h => hend (.inl h)
  have hsEnd : txt s0 ≠ sEnd := fun h => hend (.inr h)
  have fsLet : (s0.toList == [108, 101, 116]) = false := (lit_str s0 sLet).trans (decide_eq_false hsLet)
  have fsFor : (s0.toList == [102, 111, 114]) = false := (lit_str s0 sFor).trans (decide_eq_false hsFor)
  have fsIf : (s0.toList == [105, 102]) = false := (lit_str s0 sIf).trans (decide_eq_false hsIf)
  have fsElse : (s0.toList == [101, 108, 115, 101]) = false := (lit_str s0 sElse).trans (decide_eq_false hsElse)
  have fsEnd : (s0.toList == [101, 110, 100]) = false := (lit_str s0 sEnd).trans (decide_eq_false hsEnd)
  have hres2 : res = (decide (actOfL (txt s0) ≠ 0) && (takes (actOfL (txt s0)) st.length && okAll (st.map txt))) := by rw [HRES.out, fmd_act _ hend hsLet hsFor hsIf, List.length_map]
  have HK := Lib.hid (fun W => kindR_any s0 W)
  have hk17 := actOf_le2 (txt s0)
  have HR2 := Lib.hid hres2
  clear hres2 HRES hsLet hsFor hsIf hsElse hsEnd hend
  generalize actOfL (txt s0) = k at *
  go_wp2_with fail
  refine (HK.out _).mono ?_
  rintro ex w1 ⟨rfl, b1⟩
  have HT1 := Lib.hid (HTL.out.below b1)
  obtain ⟨w2, hw2⟩ : ∃ w2, w2 = w1.alloc (.cells (madeCells #[.int .i64 0] st.length) 3) := ⟨_, rfl⟩
  have b2 : Below w1.heap.size w1 w2 := by rw [hw2]; exact (Below.refl _ _).alloc (Nat.le_refl _) _
  have hzr : NRow w2 (.slice (some ⟨w1.heap.size, 0, none⟩) st.length st.length) (List.replicate st.length 0) := by rw [hw2]; exact nrow_zeros w1 st.length
  have hof := ofR_any hk17 hzr (by rw [List.length_replicate]; omega)
  have l2 := b1.trans (b2.mono b1.size)
  have HOF := Lib.hid hof
  have HW2 := Lib.hid hw2
  have HMK := Lib.hid (make22 st.length (by omega) w1)
  clear hof hw2 hzr HK HT1
  go_wp2_with (first | (refine wpList_val (o := ⟨some 66, _, _, _, _, _⟩) rfl (Instr.makeSlice 22 _ _) rfl _ HMK.out ?_) | fail)
  rw [← HW2.out]
  refine HOF.out.mono ?_
  rintro ex w3 ⟨b3, k', a, b, c', d, f, kv, kp, rfl, hkn, ⟨⟨p3, n3, c3, rfl⟩, hkk⟩, htk⟩
  have l3 := l2.trans (b3.mono l2.size)
  rw [List.length_replicate]
  obtain ⟨w4, hw4⟩ : ∃ w4, w4 = w3.alloc (.cells #[.int .i64 k', .int .i64 a, .int .i64 b, .int .i64 c', .int .i64 d, .int .i64 f, .slice p3 n3 c3] 24) := ⟨_, rfl⟩
  have b4 : Below w3.heap.size w3 w4 := by rw [hw4]; exact (Below.refl _ _).alloc (Nat.le_refl _) _
  have l4 := l3.trans (b4.mono l3.size)
  have HX := Lib.hid (exprsR_any (HTL.out.below l4) (by omega) (fun y hy => HZ.out y (by simp [hy])))
  have HW4 := Lib.hid hw4
  have HL4 := Lib.hid l4
  clear hw4 hkn hkk htk HOF HMK HW2 l2 l3 b1 b2 b3 b4 l4
  have hs0 : HZ = HZ := rfl
  clear hs0
  go_upto_region 13 with fail
  rw [← HW4.out]
  by_cases hk0 : k = 0
  · have d0 : ((k : Int) != 0) = false := by simp [hk0]
    have hr : res = false := by rw [HR2.out]; simp [hk0]
    subst hr
    clear hk0 HR2
    go_wp2_with fail
    go_ret
    exact ⟨rfl, HL4.out⟩
  have d0 : ((k : Int) != 0) = true := by simp; omega
  cases htk : takesR k st.length with
  | false =>
    have hr : res = false := by rw [HR2.out, ← takes_eq hk0 hk17, htk]; simp
    subst hr
    clear hk0 HR2
    go_wp2_with fail
    go_ret
    exact ⟨rfl, HL4.out⟩
  | true =>
    have hr : res = okAll (st.map txt) := by rw [HR2.out, ← takes_eq hk0 hk17, htk]; simp [hk0]
    rw [← hr] at HX
    clear hk0 HR2 hr
    go_wp2_with (first | (refine wpList_valG (o := ⟨some 77, _, _, _, _, _⟩) rfl (Instr.sliceAt 27 _ _ _ _) rfl _ (HSL.out _) ?_) | fail)
    refine HX.out.mono ?_
    rintro ex w5 ⟨rfl, b5⟩
    go_wp2_with fail
    go_ret
    exact ⟨rfl, HL4.out.trans (b5.mono HL4.out.size)⟩
end Go.Proofs.YtddnmocoaahlfaaGreatDoor
