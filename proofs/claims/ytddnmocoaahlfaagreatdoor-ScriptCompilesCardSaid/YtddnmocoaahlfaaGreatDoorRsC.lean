/-
  The reference's ReadScript: its beginning. No condition.
-/
import Derived.Test.YtddnmocoaahlfaaGreatDoorY31
import Derived.Test.YtddnmocoaahlfaaGreatDoorCmN
import Derived.Test.YtddnmocoaahlfaaGreatDoorY39
import Derived.Test.YtddnmocoaahlfaaGreatDoorY40
set_option linter.unusedVariables false
set_option linter.unusedSimpArgs false
namespace Go.Proofs.YtddnmocoaahlfaaGreatDoor
open Go.RowKit Go.Shelf
theorem three0 (w : World) (a : Array Value) (o2 o3 : Obj) {T : TypeId} : Blk (((w.alloc (.cells a T)).alloc o2).alloc o3).drew w.heap.size a T := ((Blk.new w a T).alloc o2).alloc o3
theorem three1 (w : World) (a : Array Value) (o1 o3 : Obj) {T : TypeId} : Blk (((w.alloc o1).alloc (.cells a T)).alloc o3).drew (w.heap.size + 1) a T := (Blk.newAt (by simp) a T).alloc o3
theorem three2 (w : World) (a : Array Value) (o1 o2 : Obj) {T : TypeId} : Blk (((w.alloc o1).alloc o2).alloc (.cells a T)).drew (w.heap.size + 1 + 1) a T := Blk.newAt (w := (w.alloc o1).alloc o2) (by simp) a T
theorem three_low (w : World) (o1 o2 o3 : Obj) : Below w.heap.size w (((w.alloc o1).alloc o2).alloc o3).drew := by
  have l1 : Below w.heap.size w (w.alloc o1) := (Below.refl _ _).alloc (Nat.le_refl _) _
  exact ((l1.alloc l1.size _).alloc (by simp; omega) _).drew
theorem lines_len (t : List UInt8) : (linesL t).length ≤ t.length + 1 := by
  have h := cut_len 10 t
  unfold linesL
  simp only
  split
  · rw [List.length_dropLast]; have := h.2; omega
  · exact h.2
theorem lines_small {t l : List UInt8} (h : l ∈ linesL t) : l.length ≤ t.length := by
  have hc := (cut_len 10 t).1
  unfold linesL at h
  simp only at h
  split at h
  · exact hc l (List.dropLast_subset _ h)
  · exact hc l h
theorem words_small {t l : List UInt8} (h : l ∈ wordsL t) : l.length ≤ t.length := (cut_len 32 t).1 l (List.mem_filter.1 h).1
theorem words_len (t : List UInt8) : (wordsL t).length ≤ t.length + 1 := Nat.le_trans (List.length_filter_le _ _) (cut_len 32 t).2
theorem zs_ints (n : Nat) : madeCells #[Value.int .i64 0] n = ints (List.replicate n 0) := by
  refine Array.ext (by simp [madeCells, ints]) fun i h1 h2 => ?_
  have hi : i < n := by simpa [ints] using h2
  have := made_get n i hi
  rw [Array.getElem?_eq_getElem h1] at this
  injection this with this
  rw [this]
  simp [ints]
theorem info27 : (Tryz.prog.info? 27).map (fun i => (i.zero, i.size, i.bytes)) = some (some (.slice none 0 0), 1, 24) := by kernel_rfl
set_option maxRecDepth 100000 in
set_option maxHeartbeats 8000000 in
theorem readR_any {w : World} (s : ByteArray) (hs : s.size ≤ 65536) : Calls Tryz.prog 62 #[.string s] w (RetRS w (txt s)) := by
  obtain ⟨w1, hw1⟩ : ∃ w1, w1 = w.alloc (.cells #[.slice none 0 0, .slice none 0 0, .slice none 0 0] 126) := ⟨_, rfl⟩
  have b1 : Below w.heap.size w w1 := by rw [hw1]; exact (Below.refl _ _).alloc (Nat.le_refl _) _
  have BR1 : Blk w1 w.heap.size #[.slice none 0 0, .slice none 0 0, .slice none 0 0] 126 := by rw [hw1]; exact Blk.new w _ _
  have HL := Lib.hid (linesR_any (w := w1) s hs)
  have HW1 := Lib.hid hw1
  have HB1 := Lib.hid b1
  have HBR1 := Lib.hid BR1
  clear hw1 b1 BR1
  go_enter Tryz.func62, Tryz.ntmps62
  go_upto_region 1 with (first | (refine wpList_val (o := ⟨some 2, Op.alloc 126, _, _, _, _⟩) rfl (Instr.alloc 126 true (.tuple #[])) rfl _ (zero126 _) ?_) | fail)
  rw [← HW1.out]
  go_wp2_with fail
  refine HL.out.mono ?_
  rintro ex w3 ⟨b3, lv, ls, rfl, hsr, htx, hlow⟩
  obtain ⟨lp, lc, rfl⟩ := hsr.form
  have hln : ls.length ≤ 65537 := by
    have h := lines_len (txt s)
    rw [← htx, List.length_map] at h
    have : (txt s).length = s.size := by simp
    omega
  obtain ⟨Z, hZ⟩ : ∃ Z : Array Value, Z = madeCells #[.int .i64 0] ls.length := ⟨_, rfl⟩
  have hmk : ∀ W : World, (Instr.makeSlice 22 (.int .i64 (ls.length : Int)) (.int .i64 (ls.length : Int))).run Tryz.prog W = .ok (.slice (some ⟨W.heap.size, 0, none⟩) ls.length ls.length) (W.alloc (.cells Z 3)) := fun W => by rw [hZ]; exact make22 ls.length (by omega) W
  have HZ := Lib.hid hZ
  clear hZ
  go_upto_region 2 with fail
  go_cut [5] (fun t5 wx => ∃ P GE GL, t5 = .pointer (some ⟨P, 0, none⟩) ∧ Blk wx P #[.slice none 0 0, .slice (some ⟨GE, 0, none⟩) ls.length ls.length, .slice (some ⟨GL, 0, none⟩) ls.length ls.length] 126 ∧ Blk wx GE Z 3 ∧ Blk wx GL Z 3 ∧ GE ≠ GL ∧ w3.heap.size ≤ P ∧ w3.heap.size ≤ GE ∧ w3.heap.size ≤ GL ∧ Below w3.heap.size w3 wx)
  case first =>
    go_region
    all_goals
      go_wp2_with fail
      go_meet
      first
        | exact ⟨w3.heap.size, (w3.heap.size + 1), (w3.heap.size + 1 + 1), rfl, three0 _ _ _ _, three1 _ _ _ _, three2 _ _ _ _, by omega, by omega, by omega, by omega, three_low _ _ _ _⟩
        | exact ⟨w3.heap.size, (w3.heap.size + 1 + 1), (w3.heap.size + 1), rfl, three0 _ _ _ _, three2 _ _ _ _, three1 _ _ _ _, by omega, by omega, by omega, by omega, three_low _ _ _ _⟩
        | exact ⟨(w3.heap.size + 1), w3.heap.size, (w3.heap.size + 1 + 1), rfl, three1 _ _ _ _, three0 _ _ _ _, three2 _ _ _ _, by omega, by omega, by omega, by omega, three_low _ _ _ _⟩
        | exact ⟨(w3.heap.size + 1), (w3.heap.size + 1 + 1), w3.heap.size, rfl, three1 _ _ _ _, three2 _ _ _ _, three0 _ _ _ _, by omega, by omega, by omega, by omega, three_low _ _ _ _⟩
        | exact ⟨(w3.heap.size + 1 + 1), w3.heap.size, (w3.heap.size + 1), rfl, three2 _ _ _ _, three0 _ _ _ _, three1 _ _ _ _, by omega, by omega, by omega, by omega, three_low _ _ _ _⟩
        | exact ⟨(w3.heap.size + 1 + 1), (w3.heap.size + 1), w3.heap.size, rfl, three2 _ _ _ _, three1 _ _ _ _, three0 _ _ _ _, by omega, by omega, by omega, by omega, three_low _ _ _ _⟩
  case rest =>
  obtain ⟨P, GE, GL, rfl, BP, BE, BL, hEL, hP, hE, hL, b34⟩ := hcut
  obtain ⟨w4, hw4⟩ : ∃ w4, w4 = wc := ⟨_, rfl⟩
  rw [← hw4] at BP BE BL b34 ⊢
  clear hw4 hmk
  rw [HZ.out, zs_ints] at BE BL
  have rs0 : RsAt w3 w4 w4.heap.size P GE GL ls.length (.slice none 0 0) (.slice none 0 0) [] [] (List.replicate ls.length 0) (List.replicate ls.length 0) [] :=
    ⟨b34, BP, BE, BL, by simp, by simp, ⟨hP, hE, hL, BP.lt, BE.lt, BL.lt, hEL, Nat.le_refl _⟩, World.ownsRow_nil _ _ _ _, fun i hi => by simp at hi, World.ownsRow_nil _ _ _ _⟩
  obtain ⟨res, hres⟩ : ∃ res, res = readL 0 (linesL (txt s)) ⟨[], []⟩ := ⟨_, rfl⟩
  have HRS0 := Lib.hid rs0
  have HRES := Lib.hid hres
  have HSR := Lib.hid hsr
  have HTX := Lib.hid htx
  have HB3 := Lib.hid b3
  have hz34 := b34.size
  clear rs0 hres hsr htx b3 BP BE BL b34 HL HW1 hlow
  go_wp2_with fail
  go_loopw [7, 6] (fun t t6 wr => ∃ (i : Nat) (b : Bld) (js : List Nat) (Wv : Value) (wv : List Value) (Ws : List (List (List UInt8))) (ei li : List Int), t = .int .i64 i ∧ i = Ws.length ∧ i ≤ ls.length ∧ js.length ≤ 16 ∧ RsAt w3 wr w4.heap.size P GE GL ls.length Wv t6 wv Ws ei li js ∧ OpenRep (tabs Ws ei li) b.top i b.open_ js ∧ readL i ((linesL (txt s)).drop i) b = res) (fun t t6 wr => ls.length - (intOf t).toNat)
  case atStart => exact ⟨0, ⟨[], []⟩, [], _, _, [], _, _, rfl, rfl, Nat.zero_le _, Nat.zero_le _, HRS0.out, .nil _, HRES.out.symm⟩
  case round =>
    obtain ⟨i, b, js, Wv, wv, Ws, ei, li, rfl, hiW, hi, hj16, hrs, hop, hread⟩ := hrel
    have hz4r : w4.heap.size ≤ wr.heap.size := hrs.low.2.2.2.2.2.2.2
    have BRr : Blk wr w.heap.size #[.slice none 0 0, .slice none 0 0, .slice none 0 0] 126 := (HBR1.out.below HB3.out).below hrs.bl
    have BPr := hrs.page
    have hsrr := HSR.out.below hrs.bl
    have HRS := Lib.hid hrs
    have HOP := Lib.hid hop
    have HREAD := Lib.hid hread
    have HIW := Lib.hid hiW
    clear hrs hop hread HRS0 hiW
    by_cases hlt : i < ls.length
    · obtain ⟨L, o, rfl, hc⟩ := srw_get hsrr hlt
      have hcap : ls.length ≤ lc := (srw_cap hsrr).resolve_left (fun e => by rw [e] at hlt; simp at hlt)
      have hlx : (linesL (txt s))[i]? = some (txt ls[i]) := by rw [← HTX.out, List.getElem?_map, List.getElem?_eq_getElem hlt]; rfl
      have hdrop : (linesL (txt s)).drop i = txt ls[i] :: (linesL (txt s)).drop (i + 1) := by
        have hi' : i < (linesL (txt s)).length := by rw [← HTX.out, List.length_map]; exact hlt
        rw [List.drop_eq_getElem_cons hi']
        congr 1
        rw [List.getElem?_eq_getElem hi'] at hlx
        injection hlx
      have hxs : (txt ls[i]).length ≤ (txt s).length := lines_small (List.mem_of_getElem? hlx)
      obtain ⟨x, hx⟩ : ∃ x, x = ls[i] := ⟨_, rfl⟩
      rw [← hx] at hc hdrop hxs
      have hxz : x.size ≤ 65536 := by
        have h1 : (txt x).length = x.size := by simp
        have h2 : (txt s).length = s.size := by simp
        omega
      have hrd2 : readL i (txt x :: (linesL (txt s)).drop (i + 1)) b = res := by rw [← hdrop]; exact HREAD.out
      have HRD := Lib.hid hrd2
      have hxl : (txt x).length ≤ 65536 := by
        have h1 : (txt x).length = x.size := by simp
        omega
      have HXS := Lib.hid hxl
      have HWD := Lib.hid (wordsR_any (w := wr) x hxz)
      clear hlx hdrop hxs hrd2 hx HREAD hsrr hxl
      go_wp2_with fail
      refine HWD.out.mono ?_
      rintro ex w5 ⟨b5, wdv, ss, rfl, hown, hst⟩
      have hown4 := row_base hown hz4r
      have hssl : ss.length ≤ 65537 := by
        have h := words_len (txt x)
        rw [← hst, List.length_map] at h
        have := HXS.out
        omega
      have hssz : ∀ y ∈ ss, y.size ≤ 65536 := fun y hy => by
        have h := words_small (t := txt x) (by rw [← hst]; exact List.mem_map.2 ⟨y, hy, rfl⟩)
        have h1 : (txt y).length = y.size := by simp
        have := HXS.out
        omega
      obtain ⟨wd, hwd⟩ : ∃ wd : List (List UInt8), wd = if wordsL (txt x) = [] ∨ ((wordsL (txt x)).headD []).headD 0 = 35 then [] else wordsL (txt x) := ⟨_, rfl⟩
      have HWDD := Lib.hid hwd
      have HST := Lib.hid hst
      have HOWN := Lib.hid hown4
      have HSSZ := Lib.hid hssz
      have HB5 := Lib.hid b5
      have hz5 := b5.size
      obtain ⟨wp, wcp, rfl⟩ := (srow_of hown4).rw.form
      clear hwd hown hown4 hssz b5 HWD hst
      go_upto_region 8 with fail
      obtain ⟨cm, hcm⟩ : ∃ cm : Bool, cm = decide (wordsL (txt x) ≠ [] ∧ ((wordsL (txt x)).headD []).headD 0 = 35) := ⟨_, rfl⟩
      have HCM := Lib.hid hcm
      clear hcm
      go_cut [39] (fun t39 wx => wx = w5 ∧ t39 = .bool cm)
      case first =>
        cases ss with
        | nil =>
          have hcf : cm = false := by rw [HCM.out]; exact decide_eq_false (fun h => h.1 HST.out.symm)
          have HF := Lib.hid hcf
          clear hcf
          go_wp2_with fail
          go_meet
          exact ⟨rfl, by rw [HF.out]⟩
        | cons x0 st =>
          obtain ⟨L0, o0, rfl, hc0⟩ := srw_get (srow_of HOWN.out).rw (i := 0) (by simp)
          rw [Nat.add_zero] at hc0
          have hc0 : w5.cell? ⟨L0, o0, none⟩ = some (.string x0) := hc0
          have hcap0 : st.length + 1 ≤ wcp := (srw_cap (srow_of HOWN.out).rw).resolve_left (fun e => by simp at e)
          have hst0 := HST.out
          simp only [List.map_cons] at hst0
          have hne : txt x0 ≠ [] := by
            have hm : txt x0 ∈ wordsL (txt x) := by rw [← hst0]; simp
            have := (List.mem_filter.1 hm).2
            simpa using this
          have hx0 : 0 < x0.size := by
            have h1 : (txt x0).length = x0.size := by simp
            rw [← h1]; exact List.length_pos_iff.2 hne
          have hh : ((wordsL (txt x)).headD []).headD 0 = x0[0] := by
            rw [← hst0]
            show (txt x0).headD 0 = _
            have hd := drop_byte hx0
            rw [List.drop_zero, byteAt_lt hx0] at hd
            rw [hd]; rfl
          have hwn : wordsL (txt x) ≠ [] := by rw [← hst0]; simp
          have hcc : cm = decide (x0[0] = 35) := by
            rw [HCM.out, hh]
            simp [hwn]
          have HCC := Lib.hid hcc
          clear hst0 hne hh hwn hcc
          rw [List.length_cons] at *
          have hpos : 0 < st.length + 1 := Nat.succ_pos _
          by_cases h35 : x0[0] = 35
          · have e1 : (((x0[0]).toNat : Int) == 35) = true := by rw [h35]; rfl
            have HF := Lib.hid (show cm = true by rw [HCC.out]; exact decide_eq_true h35)
            clear h35
            go_wp2_with fail
            go_meet
            exact ⟨rfl, by rw [HF.out]⟩
          · have e1 : (((x0[0]).toNat : Int) == 35) = false := by
              have : (x0[0]).toNat ≠ 35 := fun e => h35 (UInt8.toNat_inj.1 e)
              simp; omega
            have HF := Lib.hid (show cm = false by rw [HCC.out]; exact decide_eq_false h35)
            clear h35
            go_wp2_with fail
            go_meet
            exact ⟨rfl, by rw [HF.out]⟩
      obtain ⟨rfl, rfl⟩ := hcut
      go_upto_if 39 with fail
      go_cut [8] (fun t8 wx => wx = wc ∧ ∃ ss' : List ByteArray, wc.ownsRow w4.heap.size 9 1 t8 ss'.length (ss'.map Value.string) ∧ ss'.map txt = wd ∧ ss'.length ≤ 65537 ∧ ∀ y ∈ ss', y.size ≤ 65536)
      case first =>
        cases cm with
        | true =>
          have hc := of_decide_eq_true HCM.out.symm
          have HF := Lib.hid (show ∃ ss' : List ByteArray, wc.ownsRow w4.heap.size 9 1 (.slice none 0 0) ss'.length (ss'.map Value.string) ∧ ss'.map txt = wd ∧ ss'.length ≤ 65537 ∧ ∀ y ∈ ss', y.size ≤ 65536 from ⟨[], World.ownsRow_nil _ _ _ _, by rw [HWDD.out, if_pos (.inr hc.2)]; rfl, by simp, fun y hy => by cases hy⟩)
          clear hc
          go_wp2_with fail
          go_meet
          exact ⟨rfl, HF.out⟩
        | false =>
          have hc := of_decide_eq_false HCM.out.symm
          have HF := Lib.hid (show ∃ ss' : List ByteArray, wc.ownsRow w4.heap.size 9 1 (.slice wp ss.length wcp) ss'.length (ss'.map Value.string) ∧ ss'.map txt = wd ∧ ss'.length ≤ 65537 ∧ ∀ y ∈ ss', y.size ≤ 65536 from ⟨ss, HOWN.out, by
            rw [HWDD.out, HST.out]
            by_cases h : wordsL (txt x) = []
            · rw [if_pos (.inl h), h]
            · rw [if_neg (fun h2 => h2.elim h (fun h3 => hc ⟨h, h3⟩))], hssl, HSSZ.out⟩)
          clear hc
          go_wp2_with fail
          go_meet
          exact ⟨rfl, HF.out⟩
      obtain ⟨rfl, ss', hown', hwd', hl', hz'⟩ := hcut
      have rs5 := HRS.out.below HB5.out
      obtain ⟨i27, hi27, hq0, hq1, hq2⟩ := info_parts info27
      obtain ⟨Wp, Wc, rfl⟩ := own_form rs5.wrow
      have p0 : wc.cell? ⟨P, 0, none⟩ = some (.slice Wp Ws.length Wc) := (rs5.page.cell 0).trans rfl
      have qf := rs5.page.frozen 0
      obtain ⟨tp, tc, rfl⟩ := own_form hown'
      have hzwc : w4.heap.size ≤ wc.heap.size := rs5.low.2.2.2.2.2.2.2
      have hWl : Ws.length ≤ 65537 := by have := HIW.out; omega
      have HROW5 := Lib.hid rs5.wrow
      have RS5 := Lib.hid rs5
      have HWN := Lib.hid (And.intro hown' (And.intro hwd' (And.intro hl' hz')))
      clear rs5 hown' hwd' hz' BRr BPr
      go_upto_region 11 with (first | (at_builtin; refine wpList_append_lies (o := ⟨some 44, _, _, _, _, _⟩) _ rfl _ _ 124 rfl w4.heap.size 27 i27 (.slice none 0 0) 1 24 Tryz.underlying124 hi27 hq0 hq1 hq2 rfl (by decide) _ _ _ rfl (HROW5.out.alloc _) ⟨wc.heap.size, 0, none⟩ 1 1 [.slice tp ss'.length tc] rfl rfl (one_new _ _ _) (by simp [Value.oneCell']) (by decide) (by unfold maxLen; omega) (by omega) (by simp; omega) _ rfl ?_; intro g6 cap6 w6 hown6 hgr6 hat6 hlt6; obtain ⟨rs7, pg6, b6⟩ := RS5.out.wpush hgr6 hown6 HWN.out.1 HWN.out.2.1 HWN.out.2.2.1 HWN.out.2.2.2; have q0 : w6.cell? ⟨P, 0, none⟩ = some (.slice Wp Ws.length Wc) := (pg6.cell 0).trans rfl; have qf6 := pg6.frozen 0) | fail)
      obtain ⟨w7, hw7⟩ : ∃ w7, w7 = w6.setCell ⟨P, 0, none⟩ (.slice (some ⟨g6, 0, none⟩) (Ws.length + 1) cap6) := ⟨_, rfl⟩
      rw [← hw7] at rs7 ⊢
      have hlow7 := rs7.low.2.2.2.2.2.2.2
      have s67 : Stays (fun k => k = P) w6 w7 := by rw [hw7]; exact Stays.cell (.refl _ w6) 0 _
      have hv7 : w7.ownsRow w4.heap.size 9 1 (.slice tp ss'.length tc) ss'.length (ss'.map Value.string) := by
        obtain ⟨_, hlo, hty, _⟩ := grown_keep HROW5.out hgr6
        exact own_low4 (row_typed HWN.out.1 fun k cur z hk => hty k cur 9 z (by decide) hk) (by have := RS5.out.low; omega) s67
      obtain ⟨op, oc, hof⟩ : ∃ op oc, u6 = .slice op js.length oc := by
        obtain ⟨p, c, e⟩ := own_form rs7.orow
        exact ⟨p, c, by rw [e]; simp⟩
      subst hof
      have hb37 := rs7.bl
      have RS7 := Lib.hid rs7
      have HV7 := Lib.hid hv7
      clear rs7 hv7 hw7 s67 hown6 hgr6 hat6 hlt6 q0 qf6 pg6 b6 p0 qf RS5 HROW5 hi27 hq0 hq1 hq2
      have hwdc : wd = [] → readL (i + 1) ((linesL (txt s)).drop (i + 1)) b = res := fun h0 => by
        have h := HRD.out
        rw [readL] at h
        have hwd := HWDD.out
        by_cases hc : wordsL (txt x) = [] ∨ ((wordsL (txt x)).headD []).headD 0 = 35
        · rw [if_pos hc] at h; exact h
        · rw [if_neg hc] at hwd
          exact absurd (.inl (hwd ▸ h0)) hc
      have hwdn : wd ≠ [] → (match addL (i + 1) wd b with | none => .error (i + 1) | some b1 => readL (i + 1) ((linesL (txt s)).drop (i + 1)) b1) = res := fun h0 => by
        have h := HRD.out
        rw [readL] at h
        have hwd := HWDD.out
        by_cases hc : wordsL (txt x) = [] ∨ ((wordsL (txt x)).headD []).headD 0 = 35
        · rw [if_pos hc] at hwd; exact absurd hwd h0
        · rw [if_neg hc] at hwd h
          rw [hwd]; exact h
      have HWC := Lib.hid hwdc
      have HWNN := Lib.hid hwdn
      clear hwdc hwdn
      cases ss' with
      | nil =>
        have hwe : wd = [] := by rw [← HWN.out.2.1]; rfl
        have HREL := Lib.hid (show RsAt w3 w7 w4.heap.size P GE GL ls.length (.slice (some ⟨g6, 0, none⟩) (Ws.length + 1) cap6) (.slice op js.length oc) (wv ++ [.slice tp 0 tc]) (Ws ++ [[]]) ei li js ∧ OpenRep (tabs (Ws ++ [[]]) ei li) b.top (i + 1) b.open_ js ∧ readL (i + 1) ((linesL (txt s)).drop (i + 1)) b = res from ⟨by have h := RS7.out; rw [hwe] at h; exact h, by have h := HOP.out; rw [HIW.out] at h ⊢; exact rs_idle h, HWC.out hwe⟩)
        clear hwe
        go_wp2_with fail
        go_roundw
        case rel => exact ⟨i + 1, b, js, _, _, Ws ++ [[]], ei, li, by go_num, by have := HIW.out; simp; omega, by omega, hj16, HREL.out.1, HREL.out.2.1, HREL.out.2.2⟩
        case measure => simp [intOf]; omega
      | cons x0 st =>
        have hw0 : wd = txt x0 :: st.map txt := by rw [← HWN.out.2.1]; rfl
        subst hw0
        have hiw := HIW.out
        subst hiw
        have hrow7 := (srow_of HV7.out).rw
        obtain ⟨L0, o0, hL0, hc0⟩ := srw_get hrow7 (i := 0) (by simp)
        subst hL0
        rw [Nat.add_zero] at hc0
        have hcap0 : st.length + 1 ≤ tc := (srw_cap hrow7).resolve_left (fun e => by simp at e)
        have hstl : st.length ≤ 65537 := by have h := HWN.out.2.2.1; rw [List.length_cons] at h; omega
        obtain ⟨fm, hfm⟩ : ∃ fm, fm = fmdL (txt x0) (st.map txt) := ⟨_, rfl⟩
        have hform := formedR_any hrow7 hstl HWN.out.2.2.2
        rw [← hfm] at hform
        have HFORM := Lib.hid hform
        have HFM := Lib.hid hfm
        have HC0 := Lib.hid (show w7.cell? ⟨L0, o0, none⟩ = some (.string x0) from hc0)
        have HNONE := Lib.hid (show addL (Ws.length + 1) (txt x0 :: st.map txt) b = none → readL 0 (linesL (txt s)) ⟨[], []⟩ = .error (Ws.length + 1) from fun e => by
          have h := HWNN.out (by simp)
          rw [e] at h
          exact HRES.out.symm.trans h.symm)
        have HSOME := Lib.hid (show ∀ b1, addL (Ws.length + 1) (txt x0 :: st.map txt) b = some b1 → readL (Ws.length + 1) ((linesL (txt s)).drop (Ws.length + 1)) b1 = res from fun b1 e => by
          have h := HWNN.out (by simp)
          rw [e] at h
          exact h)
        have HB0 := Lib.hid (show RsB0 w w3 from ⟨HB1.out.trans (HB3.out.mono HB1.out.size), (HBR1.out.below HB3.out).lt⟩)
        clear hform hfm hrow7 hc0
        rw [List.length_cons] at *
        have hpos : 0 < st.length + 1 := Nat.succ_pos _
        have d0 : (((st.length : Int) + 1) == 0) = false := by simp; omega
        go_wp2_with fail
        refine HFORM.out.mono ?_
        rintro ex w8 ⟨rfl, b8⟩
        have rs8 := RS7.out.below b8
        have hc8 := cell_below HC0.out b8
        have BR8 : Blk w8 w.heap.size #[.slice none 0 0, .slice none 0 0, .slice none 0 0] 126 := (HBR1.out.below HB3.out).below rs8.bl
        have BP8 := rs8.page
        have q80 : w8.cell? ⟨P, 0, none⟩ = some (.slice (some ⟨g6, 0, none⟩) (Ws.length + 1) cap6) := (BP8.cell 0).trans rfl
        have q81 : w8.cell? ⟨P, 1, none⟩ = some (.slice (some ⟨GE, 0, none⟩) ls.length ls.length) := (BP8.cell 1).trans rfl
        have q82 : w8.cell? ⟨P, 2, none⟩ = some (.slice (some ⟨GL, 0, none⟩) ls.length ls.length) := (BP8.cell 2).trans rfl
        have hz8 := b8.size
        have hj62 : (js.length : Int) ≤ 16 := by omega
        have RS8 := Lib.hid rs8
        clear rs8 b8 HFORM RS7 HC0 HV7 HWN HWC HWNN d0
        cases fm with
        | false =>
          as_aux_lemma =>
            have HFIN := Lib.hid (rs_bad HB0.out RS8.out (HNONE.out (add_bad b HFM.out.symm)) (line := (Ws.length : Int) + 1) (by simp))
            go_wp2_with (first | (refine wpList_val (o := ⟨some 52, Op.load 126 _, _, _, _, _⟩) rfl (Instr.loadAt 126 _) rfl _ (pg_load BP8) ?_) | (refine wpList_unit (o := ⟨none, Op.store 126 (.tmp 2) _, _, _, _, _⟩) rfl rfl (Instr.storeAt 126 _ _) rfl (blk_store (c' := rsC (.slice (some ⟨g6, 0, none⟩) (Ws.length + 1) cap6) GE GL ls.length) BR8 size126 rfl rfl) ?_) | fail)
            exact ⟨rfl, _, res62 (setRow_heap w8 w.heap.size _ (rsC (.slice (some ⟨g6, 0, none⟩) (Ws.length + 1) cap6) GE GL ls.length) 126 BR8) rfl rfl rfl, HFIN.out⟩
        | true =>
          by_cases hF : txt x0 = sFor
          · have e1 : (x0.toList == [102, 111, 114]) = true := lit_true hF
            as_aux_lemma =>
              obtain ⟨nm, xs, hp, hadd⟩ := add_open (line := Ws.length + 1) b (.inl hF) HFM.out.symm
              have hol := HOP.out.len
              by_cases h16 : js.length = 16
              · have d1 : ((js.length : Int) == 16) = true := by rw [h16]; rfl
                have HFIN := Lib.hid (rs_bad HB0.out RS8.out (HNONE.out (by rw [hadd, if_neg (by omega)])) (line := (Ws.length : Int) + 1) (by simp))
                clear h16 hol hadd hp
                go_wp2_with (first | (refine wpList_val (o := ⟨some 65, Op.load 126 _, _, _, _, _⟩) rfl (Instr.loadAt 126 _) rfl _ (pg_load BP8) ?_) | (refine wpList_unit (o := ⟨none, Op.store 126 (.tmp 2) _, _, _, _, _⟩) rfl rfl (Instr.storeAt 126 _ _) rfl (blk_store (c' := rsC (.slice (some ⟨g6, 0, none⟩) (Ws.length + 1) cap6) GE GL ls.length) BR8 size126 rfl rfl) ?_) | fail)
                exact ⟨rfl, _, res62 (setRow_heap w8 w.heap.size _ (rsC (.slice (some ⟨g6, 0, none⟩) (Ws.length + 1) cap6) GE GL ls.length) 126 BR8) rfl rfl rfl, HFIN.out⟩
              · have d1 : ((js.length : Int) == 16) = false := by simp; omega
                have h17 : js.length + 1 ≤ 16 := by omega
                have HNEXT := Lib.hid (HSOME.out _ (by rw [hadd, if_pos (by omega)]))
                have HREP := Lib.hid (rs_opens HOP.out hp (.inl hF) (by rw [RS8.out.llen]; exact hlt))
                have HROW8 := Lib.hid (show w8.ownsRow w4.heap.size 3 1 (.slice op js.length oc) js.length ((js.reverse.map fun j : Nat => (j : Int)).map fun n => Value.int .i64 n) by have h := RS8.out.orow; simpa [IRow] using h)
                obtain ⟨i3, hi3, hq0, hq1, hq2⟩ := info_parts info3
                clear h16 hol hadd hp
                go_upto_region 21 with (first | (at_builtin; refine wpList_append_lies (o := ⟨some 71, _, _, _, _, _⟩) _ rfl _ _ 22 rfl w4.heap.size 3 i3 (.int .i64 0) 1 8 Tryz.underlying22 hi3 hq0 hq1 hq2 rfl (by decide) _ _ _ rfl (HROW8.out.alloc _) ⟨w8.heap.size, 0, none⟩ 1 1 [.int .i64 (Ws.length : Int)] rfl rfl (one_new _ _ _) (by simp [Value.oneCell']) (by decide) (by unfold maxLen; omega) (by omega) (by simp; omega) _ rfl ?_; intro g9 cap9 w9 hown9 hgr9 hat9 hlt9; have rs9 := RS8.out.opush Ws.length hgr9 hown9; have RS9 := Lib.hid rs9; have q92 : w9.cell? ⟨P, 2, none⟩ = some (.slice (some ⟨GL, 0, none⟩) ls.length ls.length) := (rs9.page.cell 2).trans rfl; have hl9 : w9.cell? ⟨GL, Ws.length, none⟩ = some (.int .i64 (li.getD Ws.length 0)) := rs9.lcell hlt; have qfl9 := rs9.lb.frozen Ws.length; clear rs9) | fail)
                clear hown9 hgr9 hat9 hlt9 hi3 hq0 hq1 hq2 hc8 q80 q81 q82
                go_wp2_with fail
                go_roundw
                case rel => exact ⟨Ws.length + 1, _, Ws.length :: js, _, _, _, _, _, by go_num, by simp, by omega, by simp; omega, RS9.out.setL Ws.length (-1), HREP.out, HNEXT.out⟩
                case measure => simp [intOf]; omega
          have e1 : (x0.toList == [102, 111, 114]) = false := lit_false hF
          by_cases hI : txt x0 = sIf
          · have e2 : (x0.toList == [105, 102]) = true := lit_true hI
            as_aux_lemma =>
              obtain ⟨nm, xs, hp, hadd⟩ := add_open (line := Ws.length + 1) b (.inr hI) HFM.out.symm
              have hol := HOP.out.len
              by_cases h16 : js.length = 16
              · have d1 : ((js.length : Int) == 16) = true := by rw [h16]; rfl
                have HFIN := Lib.hid (rs_bad HB0.out RS8.out (HNONE.out (by rw [hadd, if_neg (by omega)])) (line := (Ws.length : Int) + 1) (by simp))
                clear h16 hol hadd hp
                go_wp2_with (first | (refine wpList_val (o := ⟨some 65, Op.load 126 _, _, _, _, _⟩) rfl (Instr.loadAt 126 _) rfl _ (pg_load BP8) ?_) | (refine wpList_unit (o := ⟨none, Op.store 126 (.tmp 2) _, _, _, _, _⟩) rfl rfl (Instr.storeAt 126 _ _) rfl (blk_store (c' := rsC (.slice (some ⟨g6, 0, none⟩) (Ws.length + 1) cap6) GE GL ls.length) BR8 size126 rfl rfl) ?_) | fail)
                exact ⟨rfl, _, res62 (setRow_heap w8 w.heap.size _ (rsC (.slice (some ⟨g6, 0, none⟩) (Ws.length + 1) cap6) GE GL ls.length) 126 BR8) rfl rfl rfl, HFIN.out⟩
              · have d1 : ((js.length : Int) == 16) = false := by simp; omega
                have h17 : js.length + 1 ≤ 16 := by omega
                have HNEXT := Lib.hid (HSOME.out _ (by rw [hadd, if_pos (by omega)]))
                have HREP := Lib.hid (rs_opens HOP.out hp (.inr hI) (by rw [RS8.out.llen]; exact hlt))
                have HROW8 := Lib.hid (show w8.ownsRow w4.heap.size 3 1 (.slice op js.length oc) js.length ((js.reverse.map fun j : Nat => (j : Int)).map fun n => Value.int .i64 n) by have h := RS8.out.orow; simpa [IRow] using h)
                obtain ⟨i3, hi3, hq0, hq1, hq2⟩ := info_parts info3
                clear h16 hol hadd hp
                go_upto_region 21 with (first | (at_builtin; refine wpList_append_lies (o := ⟨some 71, _, _, _, _, _⟩) _ rfl _ _ 22 rfl w4.heap.size 3 i3 (.int .i64 0) 1 8 Tryz.underlying22 hi3 hq0 hq1 hq2 rfl (by decide) _ _ _ rfl (HROW8.out.alloc _) ⟨w8.heap.size, 0, none⟩ 1 1 [.int .i64 (Ws.length : Int)] rfl rfl (one_new _ _ _) (by simp [Value.oneCell']) (by decide) (by unfold maxLen; omega) (by omega) (by simp; omega) _ rfl ?_; intro g9 cap9 w9 hown9 hgr9 hat9 hlt9; have rs9 := RS8.out.opush Ws.length hgr9 hown9; have RS9 := Lib.hid rs9; have q92 : w9.cell? ⟨P, 2, none⟩ = some (.slice (some ⟨GL, 0, none⟩) ls.length ls.length) := (rs9.page.cell 2).trans rfl; have hl9 : w9.cell? ⟨GL, Ws.length, none⟩ = some (.int .i64 (li.getD Ws.length 0)) := rs9.lcell hlt; have qfl9 := rs9.lb.frozen Ws.length; clear rs9) | fail)
                clear hown9 hgr9 hat9 hlt9 hi3 hq0 hq1 hq2 hc8 q80 q81 q82
                go_wp2_with fail
                go_roundw
                case rel => exact ⟨Ws.length + 1, _, Ws.length :: js, _, _, _, _, _, by go_num, by simp, by omega, by simp; omega, RS9.out.setL Ws.length (-1), HREP.out, HNEXT.out⟩
                case measure => simp [intOf]; omega
          have e2 : (x0.toList == [105, 102]) = false := lit_false hI
          by_cases hE : txt x0 = sElse
          · have e3 : (x0.toList == [101, 108, 115, 101]) = true := lit_true hE
            have hadd := add_else (line := Ws.length + 1) (t := st.map txt) b (by rw [← hE]; exact HFM.out.symm)
            rw [← hE] at hadd
            cases js with
            | nil =>
              have ho : b.open_ = [] := List.length_eq_zero_iff.1 HOP.out.len
              rw [ho] at hadd
              have HADD := Lib.hid hadd
              have hjz : ([] : List Nat).length = 0 := rfl
              rw [hjz] at *
              have d1 : (((0 : Nat) : Int) == 0) = true := rfl
              clear hadd ho hF hI hE hjz
              as_aux_lemma =>
                go_upto_region 23 with fail
                go_quiet (fail)
                obtain ⟨wq, hwq⟩ : ∃ wq, wq = w8.drewN nq := ⟨_, rfl⟩
                have bwq : Below w8.heap.size w8 wq := by rw [hwq]; exact dn_below _ _
                rw [← hwq]
                have rsq := RS8.out.below bwq
                have BPQ := rsq.page
                have BRQ := BR8.below bwq
                have HFIN := Lib.hid (rs_bad HB0.out rsq (HNONE.out HADD.out) (line := (Ws.length : Int) + 1) (by simp))
                clear rsq hwq bwq
                go_wp2_with (first | (refine wpList_val (o := ⟨some 106, Op.load 126 _, _, _, _, _⟩) rfl (Instr.loadAt 126 _) rfl _ (pg_load BPQ) ?_) | (refine wpList_unit (o := ⟨none, Op.store 126 (.tmp 2) _, _, _, _, _⟩) rfl rfl (Instr.storeAt 126 _ _) rfl (blk_store (c' := rsC (.slice (some ⟨g6, 0, none⟩) (Ws.length + 1) cap6) GE GL ls.length) BRQ size126 rfl rfl) ?_) | fail)
                exact ⟨rfl, _, res62 (setRow_heap wq w.heap.size _ (rsC (.slice (some ⟨g6, 0, none⟩) (Ws.length + 1) cap6) GE GL ls.length) 126 BRQ) rfl rfl rfl, HFIN.out⟩
            | cons j js =>
              obtain ⟨o, os, ho⟩ : ∃ o os, b.open_ = o :: os := by
                cases h : b.open_ with
                | nil => have := HOP.out.len; rw [h] at this; simp at this
                | cons o os => exact ⟨o, os, rfl⟩
              have hop' := HOP.out
              rw [ho] at hop'
              obtain ⟨hhas, ⟨tl, hwj⟩, hji, hkind⟩ := rs_has hop'
              obtain ⟨Go, co, hov, hcc, _, hcj⟩ := RS8.out.otop
              injection hov with hov1 hov2 hov3
              subst hov1
              subst hov3
              have hjl : j < ls.length := by omega
              obtain ⟨lj, hlj⟩ : ∃ lj, lj = li.getD j 0 := ⟨_, rfl⟩
              have hlc : w8.cell? ⟨GL, j, none⟩ = some (.int .i64 lj) := by rw [hlj]; exact RS8.out.lcell hjl
              rw [← hlj] at hhas
              have HLJ := Lib.hid hlj
              have HHO := Lib.hid ho
              have HHAS := Lib.hid hhas
              rw [List.length_cons] at *
              have hm : js.length < js.length + 1 := Nat.lt_succ_self _
              have d1 : (((js.length : Int) + 1) == 0) = false := by simp; omega
              have hwj' : (Ws ++ [txt x0 :: st.map txt]).getD j [] = o.kind :: tl := (getD_push Ws _ [] j hji).trans hwj
              obtain ⟨G2, c2, L2, o2, n2, cc2, k0, hWv, hc2, hwc, hn2, hnc, hk0, hkt⟩ := RS8.out.wcell (by simp; omega) hwj'
              injection hWv with hWv1 hWv2 hWv3
              injection hWv1 with hWv1
              injection hWv1 with hWv1
              subst hWv1
              subst hWv3
              rw [ho] at hadd
              simp only at hadd
              have HADD := Lib.hid hadd
              have HOPP := Lib.hid hop'
              have HHO2 := Lib.hid hhas
              have hj1 : j < Ws.length + 1 := by omega
              clear hadd hop' hhas hwj hwj' hkind hlj ho hF hI hE hov2 hWv2
              by_cases hk : o.kind = sIf
              · have e5 : (k0.toList == [105, 102]) = true := lit_true (hkt.trans hk)
                by_cases hh : o.hasOther = true
                · have hlj0 : ¬ lj < 0 := fun e => by have := HHAS.out.1 e; rw [hh] at this; cases this
                  have d5 : decide ((0 : Int) ≤ lj) = true := decide_eq_true (by omega)
                  have HAD := Lib.hid (HADD.out.trans (if_pos (.inr hh)))
                  clear hlj0 hk hh hkt
                  as_aux_lemma =>
                    go_upto_region 23 with fail
                    go_quiet (fail)
                    obtain ⟨wq, hwq⟩ : ∃ wq, wq = w8.drewN nq := ⟨_, rfl⟩
                    have bwq : Below w8.heap.size w8 wq := by rw [hwq]; exact dn_below _ _
                    rw [← hwq]
                    have rsq := RS8.out.below bwq
                    have BPQ := rsq.page
                    have BRQ := BR8.below bwq
                    have HFIN := Lib.hid (rs_bad HB0.out rsq (HNONE.out HAD.out) (line := (Ws.length : Int) + 1) (by simp))
                    clear rsq hwq bwq
                    go_wp2_with (first | (refine wpList_val (o := ⟨some 106, Op.load 126 _, _, _, _, _⟩) rfl (Instr.loadAt 126 _) rfl _ (pg_load BPQ) ?_) | (refine wpList_unit (o := ⟨none, Op.store 126 (.tmp 2) _, _, _, _, _⟩) rfl rfl (Instr.storeAt 126 _ _) rfl (blk_store (c' := rsC (.slice (some ⟨g6, 0, none⟩) (Ws.length + 1) cap6) GE GL ls.length) BRQ size126 rfl rfl) ?_) | fail)
                    exact ⟨rfl, _, res62 (setRow_heap wq w.heap.size _ (rsC (.slice (some ⟨g6, 0, none⟩) (Ws.length + 1) cap6) GE GL ls.length) 126 BRQ) rfl rfl rfl, HFIN.out⟩
                · have hhf : o.hasOther = false := by simpa using hh
                  have hlj0 : lj < 0 := HHAS.out.2 hhf
                  have d5 : decide ((0 : Int) ≤ lj) = false := decide_eq_false (by omega)
                  have HNEXT := Lib.hid (HSOME.out _ (HADD.out.trans (if_neg (fun h => h.elim (fun h => h hk) hh))))
                  have HREP := Lib.hid (rs_else HOPP.out hk hhf (by rw [RS8.out.llen]; exact hlt) (txt x0 :: st.map txt))
                  clear hlj0 hk hh hhf hkt
                  as_aux_lemma =>
                    go_upto_region 23 with fail
                    go_quiet (fail)
                    obtain ⟨wq, hwq⟩ : ∃ wq, wq = w8.drewN nq := ⟨_, rfl⟩
                    have bwq : Below w8.heap.size w8 wq := by rw [hwq]; exact dn_below _ _
                    rw [← hwq]
                    have rsq := RS8.out.below bwq
                    have BPQ := rsq.page
                    have BRQ := BR8.below bwq
                    have HCQ := cell_below hcj bwq
                    have HLQ : wq.cell? ⟨GL, j, none⟩ = some (.int .i64 lj) := cell_below hlc bwq
                    have RSQ := Lib.hid rsq
                    clear rsq hwq bwq hc8 q80 q81 q82 hcj hlc hwc hk0
                    go_upto_region 25 with fail
                    refine wp_region_still_tail 8 (by kernel_rfl) (by kernel_rfl) ?_
                    simp only [List.take_succ_cons, List.take_zero, List.drop_succ_cons, List.drop_zero]
                    refine still_val (o := ⟨some 109, Op.fieldAddr 126 _ 2, _, _, _, _⟩) rfl (Instr.fieldAt 126 _ 2) rfl _ (fld126 _ 2 (by decide) _) ?_
                    refine still_val (o := ⟨some 110, Op.load 22 _, _, _, _, _⟩) rfl (Instr.loadAt 22 _) rfl _ (ld22 _ _ _ _ ((BPQ.cell 2).trans rfl)) ?_
                    still_step
                    still_step
                    refine still_val (o := ⟨some 113, Op.binOp .sub 3 _ _ 3, _, _, _, _⟩) rfl (do eqGuard .sub 3 (.tmp 112) (.const (.int .i64 1)) _ _; binOp .sub 3 _ _) rfl _ (sub_run ((js.length : Int) + 1) 1 _ _ _ (show I64 ((js.length : Int) + 1 - 1) from ⟨by omega, by omega⟩)) ?_
                    refine still_val (o := ⟨some 114, Op.indexAddr 22 _ _, _, _, _, _⟩) rfl (Instr.indexAt 22 _ _) rfl _ (top22 _ _ _ _) ?_
                    refine still_val (o := ⟨some 115, Op.load 3 _, _, _, _, _⟩) rfl (Instr.loadAt 3 _) rfl _ (ld3 _ _ _ _ (by rw [Nat.zero_add]; exact HCQ)) ?_
                    still_step
                    refine wpStill_nil ?_
                    have RSF := Lib.hid ((RSQ.out.setL j (Ws.length : Int)).below (d1_below _))
                    have qfj : wq.cell? ⟨GL, j, none⟩ = some (.int .i64 _) := RSQ.out.lcell hjl
                    have qff := RSQ.out.lb.frozen j
                    go_wp2_with fail
                    go_roundw
                    case rel => exact ⟨Ws.length + 1, _, j :: js, _, _, _, _, _, by go_num, by simp, by omega, by simpa using hj16, RSF.out, HREP.out, HNEXT.out⟩
                    case measure => simp [intOf]; omega
              · have e5 : (k0.toList == [105, 102]) = false := lit_false (fun e => hk (hkt.symm.trans e))
                have HAD := Lib.hid (HADD.out.trans (if_pos (.inl hk)))
                clear hk hkt
                as_aux_lemma =>
                  go_upto_region 23 with fail
                  go_quiet (fail)
                  obtain ⟨wq, hwq⟩ : ∃ wq, wq = w8.drewN nq := ⟨_, rfl⟩
                  have bwq : Below w8.heap.size w8 wq := by rw [hwq]; exact dn_below _ _
                  rw [← hwq]
                  have rsq := RS8.out.below bwq
                  have BPQ := rsq.page
                  have BRQ := BR8.below bwq
                  have HFIN := Lib.hid (rs_bad HB0.out rsq (HNONE.out HAD.out) (line := (Ws.length : Int) + 1) (by simp))
                  clear rsq hwq bwq
                  go_wp2_with (first | (refine wpList_val (o := ⟨some 106, Op.load 126 _, _, _, _, _⟩) rfl (Instr.loadAt 126 _) rfl _ (pg_load BPQ) ?_) | (refine wpList_unit (o := ⟨none, Op.store 126 (.tmp 2) _, _, _, _, _⟩) rfl rfl (Instr.storeAt 126 _ _) rfl (blk_store (c' := rsC (.slice (some ⟨g6, 0, none⟩) (Ws.length + 1) cap6) GE GL ls.length) BRQ size126 rfl rfl) ?_) | fail)
                  exact ⟨rfl, _, res62 (setRow_heap wq w.heap.size _ (rsC (.slice (some ⟨g6, 0, none⟩) (Ws.length + 1) cap6) GE GL ls.length) 126 BRQ) rfl rfl rfl, HFIN.out⟩
          have e3 : (x0.toList == [101, 108, 115, 101]) = false := lit_false hE
          by_cases hN : txt x0 = sEnd
          · have e4 : (x0.toList == [101, 110, 100]) = true := lit_true hN
            have hadd := add_end (line := Ws.length + 1) (t := st.map txt) b (by rw [← hN]; exact HFM.out.symm)
            rw [← hN] at hadd
            cases js with
            | nil =>
              have ho : b.open_ = [] := List.length_eq_zero_iff.1 HOP.out.len
              rw [ho] at hadd
              have HADD := Lib.hid hadd
              have hjz : ([] : List Nat).length = 0 := rfl
              rw [hjz] at *
              have d1 : (((0 : Nat) : Int) == 0) = true := rfl
              clear hadd ho hF hI hE hN hjz
              as_aux_lemma =>
                have HFIN := Lib.hid (rs_bad HB0.out RS8.out (HNONE.out HADD.out) (line := (Ws.length : Int) + 1) (by simp))
                go_wp2_with (first | (refine wpList_val (o := ⟨some 122, Op.load 126 _, _, _, _, _⟩) rfl (Instr.loadAt 126 _) rfl _ (pg_load BP8) ?_) | (refine wpList_unit (o := ⟨none, Op.store 126 (.tmp 2) _, _, _, _, _⟩) rfl rfl (Instr.storeAt 126 _ _) rfl (blk_store (c' := rsC (.slice (some ⟨g6, 0, none⟩) (Ws.length + 1) cap6) GE GL ls.length) BR8 size126 rfl rfl) ?_) | fail)
                exact ⟨rfl, _, res62 (setRow_heap w8 w.heap.size _ (rsC (.slice (some ⟨g6, 0, none⟩) (Ws.length + 1) cap6) GE GL ls.length) 126 BR8) rfl rfl rfl, HFIN.out⟩
            | cons j js =>
              obtain ⟨o, os, ho⟩ : ∃ o os, b.open_ = o :: os := by
                cases h : b.open_ with
                | nil => have := HOP.out.len; rw [h] at this; simp at this
                | cons o os => exact ⟨o, os, rfl⟩
              have hop' := HOP.out
              rw [ho] at hop'
              obtain ⟨hhas, ⟨tl, hwj⟩, hji, hkind⟩ := rs_has hop'
              obtain ⟨Go, co, hov, hcc, _, hcj⟩ := RS8.out.otop
              injection hov with hov1 hov2 hov3
              subst hov1
              subst hov3
              have hjl : j < ls.length := by omega
              obtain ⟨lj, hlj⟩ : ∃ lj, lj = li.getD j 0 := ⟨_, rfl⟩
              have hlc : w8.cell? ⟨GL, j, none⟩ = some (.int .i64 lj) := by rw [hlj]; exact RS8.out.lcell hjl
              rw [← hlj] at hhas
              have HLJ := Lib.hid hlj
              have HHO := Lib.hid ho
              have HHAS := Lib.hid hhas
              rw [List.length_cons] at *
              have hm : js.length < js.length + 1 := Nat.lt_succ_self _
              have d1 : (((js.length : Int) + 1) == 0) = false := by simp; omega
              as_aux_lemma =>
                rw [ho] at hadd
                simp only at hadd
                have HNEXT := Lib.hid (HSOME.out _ hadd)
                have HREP := Lib.hid (rs_end hop' (by rw [RS8.out.elen]; exact hlt) (by rw [RS8.out.llen]; exact hlt) (txt x0 :: st.map txt))
                have hec := RS8.out.ecell hjl
                clear hadd hop' hhas hwj hkind hlj ho hF hI hE hN hov2
                go_upto_region 29 with fail
                refine wp_region_still_tail 8 (by kernel_rfl) (by kernel_rfl) ?_
                simp only [List.take_succ_cons, List.take_zero, List.drop_succ_cons, List.drop_zero]
                refine still_val (o := ⟨some 125, Op.fieldAddr 126 _ 1, _, _, _, _⟩) rfl (Instr.fieldAt 126 _ 1) rfl _ (fld126 _ 1 (by decide) _) ?_
                refine still_val (o := ⟨some 126, Op.load 22 _, _, _, _, _⟩) rfl (Instr.loadAt 22 _) rfl _ (ld22 _ _ _ _ q81) ?_
                still_step
                still_step
                refine still_val (o := ⟨some 129, Op.binOp .sub 3 _ _ 3, _, _, _, _⟩) rfl (do eqGuard .sub 3 (.tmp 128) (.const (.int .i64 1)) _ _; binOp .sub 3 _ _) rfl _ (sub_run ((js.length : Int) + 1) 1 _ _ _ (show I64 ((js.length : Int) + 1 - 1) from ⟨by omega, by omega⟩)) ?_
                refine still_val (o := ⟨some 130, Op.indexAddr 22 _ _, _, _, _, _⟩) rfl (Instr.indexAt 22 _ _) rfl _ (top22 _ _ _ _) ?_
                refine still_val (o := ⟨some 131, Op.load 3 _, _, _, _, _⟩) rfl (Instr.loadAt 3 _) rfl _ (ld3 _ _ _ _ (by rw [Nat.zero_add]; exact hcj)) ?_
                still_step
                refine wpStill_nil ?_
                have RSF := Lib.hid ((RS8.out.setE j (Ws.length : Int)).below (d1_below _))
                have qfj : w8.cell? ⟨GE, j, none⟩ = some (.int .i64 _) := RS8.out.ecell hjl
                have qff := RS8.out.eb.frozen j
                go_upto_region 30 with fail
                obtain ⟨w9, hw9⟩ : ∃ w9, w9 = (w8.setCell ⟨GE, j, none⟩ (.int .i64 (Ws.length : Int))).drew := ⟨_, rfl⟩
                have rs9 := RSF.out
                rw [← hw9] at rs9 ⊢
                have BP9 := rs9.page
                have p92 : w9.cell? ⟨P, 2, none⟩ = some (.slice (some ⟨GL, 0, none⟩) ls.length ls.length) := (BP9.cell 2).trans rfl
                have hcj9 := rs9.otop2.1
                have hlc9 : w9.cell? ⟨GL, j, none⟩ = some (.int .i64 lj) := by rw [HLJ.out]; exact rs9.lcell hjl
                have RS9 := Lib.hid rs9
                have HINIT := Lib.hid (fun w => init22 ⟨Go, 0, none⟩ js.length oc hcc w)
                clear rs9 hw9 q80 q81 q82 hc8 BP8 BR8 hcj hlc qfj qff hec RSF
                by_cases hh : o.hasOther = true
                · have hlj0 : ¬ lj < 0 := fun e => by have := HHAS.out.1 e; rw [hh] at this; cases this
                  have d5 : decide (lj < 0) = false := decide_eq_false hlj0
                  have hrep := HREP.out
                  rw [if_pos hh] at hrep
                  have HREP2 := Lib.hid hrep
                  clear hrep hlj0 hh
                  go_quiet (fail)
                  go_wp2_with (first | (refine wpList_val (o := ⟨some 156, _, _, _, _, _⟩) rfl (Instr.sliceAt 22 _ _ _ _) rfl _ (HINIT.out _) ?_) | fail)
                  go_roundw
                  case rel => exact ⟨Ws.length + 1, _, js, _, _, _, _, _, by go_num, by simp, by omega, by simp at hj16; omega, ((RS9.out.below (dn_below _ _)).opop).1, HREP2.out, HNEXT.out⟩
                  case measure => simp [intOf]; omega
                · have hhf : o.hasOther = false := by simpa using hh
                  have hlj0 : lj < 0 := HHAS.out.2 hhf
                  have d5 : decide (lj < 0) = true := decide_eq_true hlj0
                  have hrep := HREP.out
                  rw [if_neg hh] at hrep
                  have HREP2 := Lib.hid hrep
                  clear hrep hlj0 hh hhf
                  go_quiet (fail)
                  obtain ⟨wq, hwq⟩ : ∃ wq, wq = w9.drewN nq := ⟨_, rfl⟩
                  have bwq : Below w9.heap.size w9 wq := by rw [hwq]; exact dn_below _ _
                  rw [← hwq]
                  have rsq := RS9.out.below bwq
                  have BPQ := rsq.page
                  have HCQ := rsq.otop2.1
                  have RSQ := Lib.hid rsq
                  clear rsq hwq bwq BP9 p92 hcj9 hlc9
                  go_upto_region 31 with fail
                  refine wp_region_still_tail 8 (by kernel_rfl) (by kernel_rfl) ?_
                  simp only [List.take_succ_cons, List.take_zero, List.drop_succ_cons, List.drop_zero]
                  refine still_val (o := ⟨some 144, Op.fieldAddr 126 _ 2, _, _, _, _⟩) rfl (Instr.fieldAt 126 _ 2) rfl _ (fld126 _ 2 (by decide) _) ?_
                  refine still_val (o := ⟨some 145, Op.load 22 _, _, _, _, _⟩) rfl (Instr.loadAt 22 _) rfl _ (ld22 _ _ _ _ ((BPQ.cell 2).trans rfl)) ?_
                  still_step
                  still_step
                  refine still_val (o := ⟨some 148, Op.binOp .sub 3 _ _ 3, _, _, _, _⟩) rfl (do eqGuard .sub 3 (.tmp 147) (.const (.int .i64 1)) _ _; binOp .sub 3 _ _) rfl _ (sub_run ((js.length : Int) + 1) 1 _ _ _ (show I64 ((js.length : Int) + 1 - 1) from ⟨by omega, by omega⟩)) ?_
                  refine still_val (o := ⟨some 149, Op.indexAddr 22 _ _, _, _, _, _⟩) rfl (Instr.indexAt 22 _ _) rfl _ (top22 _ _ _ _) ?_
                  refine still_val (o := ⟨some 150, Op.load 3 _, _, _, _, _⟩) rfl (Instr.loadAt 3 _) rfl _ (ld3 _ _ _ _ (by rw [Nat.zero_add]; exact HCQ)) ?_
                  still_step
                  refine wpStill_nil ?_
                  have RSF := Lib.hid ((RSQ.out.setL j (Ws.length : Int)).below (d1_below _))
                  have qfj : wq.cell? ⟨GL, j, none⟩ = some (.int .i64 _) := RSQ.out.lcell hjl
                  have qff := RSQ.out.lb.frozen j
                  go_upto_region 32 with fail
                  go_wp2_with (first | (refine wpList_val (o := ⟨some 156, _, _, _, _, _⟩) rfl (Instr.sliceAt 22 _ _ _ _) rfl _ (HINIT.out _) ?_) | fail)
                  go_roundw
                  case rel => exact ⟨Ws.length + 1, _, js, _, _, _, _, _, by go_num, by simp, by omega, by simp at hj16; omega, (RSF.out.opop).1, HREP2.out, HNEXT.out⟩
                  case measure => simp [intOf]; omega
          have e4 : (x0.toList == [101, 110, 100]) = false := lit_false hN
          obtain ⟨nm, xs, hp, hadd⟩ := add_single (line := Ws.length + 1) b ⟨hF, hI⟩ ⟨hE, hN⟩ HFM.out.symm
          have HNEXT := Lib.hid (HSOME.out _ hadd)
          have HREP := Lib.hid (rs_single HOP.out hp ⟨hF, hI⟩)
          as_aux_lemma =>
            clear hadd hp hF hI hE hN
            go_wp2_with fail
            go_roundw
            case rel => exact ⟨Ws.length + 1, _, js, _, _, _, _, _, by go_num, by simp, by omega, hj16, RS8.out, HREP.out, HNEXT.out⟩
            case measure => simp [intOf]; omega
    · have hil : i = ls.length := by omega
      have hnl : (linesL (txt s)).length = ls.length := by rw [← HTX.out, List.length_map]
      have hres : res = .ok b := by
        have h := HREAD.out
        rw [List.drop_eq_nil_of_le (by omega), readL] at h
        exact h.symm
      have hfin : readL 0 (linesL (txt s)) ⟨[], []⟩ = .ok b := HRES.out.symm.trans hres
      have HB0 := Lib.hid (show RsB0 w w3 from ⟨HB1.out.trans (HB3.out.mono HB1.out.size), (HBR1.out.below HB3.out).lt⟩)
      have hWl : Ws.length = ls.length := by have := HIW.out; omega
      obtain ⟨op, oc, hof⟩ : ∃ op oc, u6 = .slice op js.length oc := by
        obtain ⟨p, c, e⟩ := own_form HRS.out.orow
        exact ⟨p, c, by rw [e]; simp⟩
      subst hof
      obtain ⟨Wp, Wc, hWv⟩ := own_form HRS.out.wrow
      subst hWv
      have hop := HOP.out
      rw [hil] at hop
      have HHOP := Lib.hid hop
      have HWL := Lib.hid hWl
      have HNL := Lib.hid hnl
      have HFN := Lib.hid hfin
      clear hop hWl hnl hfin hres HREAD HIW
      have d2 : decide ((i : Int) < (ls.length : Int)) = false := decide_eq_false (by omega)
      cases js with
      | nil =>
        have HFIN := Lib.hid (rs_done HB0.out HRS.out HFN.out HHOP.out HWL.out hln HNL.out (line := 0) rfl)
        have hjz : ([] : List Nat).length = 0 := rfl
        rw [hjz] at *
        clear hjz HHOP HOP HRS
        subst hil
        as_aux_lemma =>
          go_wp2_with (first | (refine wpList_val (o := ⟨some 164, Op.load 126 _, _, _, _, _⟩) rfl (Instr.loadAt 126 _) rfl _ (pg_load BPr) ?_) | (refine wpList_unit (o := ⟨none, Op.store 126 (.tmp 2) _, _, _, _, _⟩) rfl rfl (Instr.storeAt 126 _ _) rfl (blk_store (c' := rsC (.slice Wp Ws.length Wc) GE GL ls.length) BRr size126 rfl rfl) ?_) | fail)
          exact ⟨rfl, _, res62 (setRow_heap wr w.heap.size _ (rsC (.slice Wp Ws.length Wc) GE GL ls.length) 126 BRr) rfl rfl rfl, HFIN.out⟩
      | cons j js =>
        have ho : b.open_ ≠ [] := fun h => by have := HHOP.out.len; rw [h] at this; simp at this
        have HFIN := Lib.hid (rs_late HB0.out HRS.out HFN.out ho (line := (ls.length : Int) + 1) (by rw [HNL.out]; simp))
        rw [List.length_cons] at *
        have d3 : decide ((0 : Int) < (js.length : Int) + 1) = true := decide_eq_true (by omega)
        clear HHOP HOP HRS ho
        subst hil
        as_aux_lemma =>
          go_wp2_with (first | (refine wpList_val (o := ⟨some 160, Op.load 126 _, _, _, _, _⟩) rfl (Instr.loadAt 126 _) rfl _ (pg_load BPr) ?_) | (refine wpList_unit (o := ⟨none, Op.store 126 (.tmp 2) _, _, _, _, _⟩) rfl rfl (Instr.storeAt 126 _ _) rfl (blk_store (c' := rsC (.slice Wp Ws.length Wc) GE GL ls.length) BRr size126 rfl rfl) ?_) | fail)
          exact ⟨rfl, _, res62 (setRow_heap wr w.heap.size _ (rsC (.slice Wp Ws.length Wc) GE GL ls.length) 126 BRr) rfl rfl rfl, HFIN.out⟩
end Go.Proofs.YtddnmocoaahlfaaGreatDoor
