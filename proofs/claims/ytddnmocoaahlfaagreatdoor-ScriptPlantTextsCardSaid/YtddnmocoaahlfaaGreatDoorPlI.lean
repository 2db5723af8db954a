/-
  The program's ParsePlant: the text is cut line by line. Conditions: the package-level variables hold what the program lays; a short text.
-/
import Derived.Test.YtddnmocoaahlfaaGreatDoorY18
import Derived.Test.YtddnmocoaahlfaaGreatDoorZr
set_option linter.unusedVariables false
set_option linter.unusedSimpArgs false

namespace Go.Proofs.YtddnmocoaahlfaaGreatDoor
open Go.RowKit Go.Shelf
theorem index_lf (t : List UInt8) : Lib.index t [10] = if 10 ∈ t then ((t.takeWhile (· != 10)).length : Int) else -1 := by
  induction t with
  | nil => rfl
  | cons b t ih =>
    rw [Lib.index]
    by_cases hb : b = 10
    · subst hb
      rw [if_pos (by rfl), if_pos (by simp)]
      simp
    · have h1 : ¬ ([10].isPrefixOf (b :: t) = true) := by
        simp [List.isPrefixOf]
        exact fun h => hb h.symm
      rw [if_neg h1, ih]
      by_cases ht : 10 ∈ t
      · rw [if_pos ht, if_pos (List.mem_cons_of_mem _ ht)]
        have h2 : ¬ ((((t.takeWhile (· != 10)).length : Int) == -1) = true) := by
          rw [beq_iff_eq]; omega
        rw [if_neg h2, List.takeWhile_cons_of_pos (by simpa using hb)]
        simp
      · rw [if_neg ht, if_neg (show ¬ (10 ∈ b :: t) from fun h => (List.mem_cons.1 h).elim (fun h => hb h.symm) ht), if_pos (by rfl)]
theorem drop_tw (t : List UInt8) : t.drop (t.takeWhile (· != 10)).length = t.dropWhile (· != 10) := by
  conv => lhs; arg 2; rw [← List.takeWhile_append_dropWhile (p := (· != (10 : UInt8))) (l := t)]
  rw [List.drop_left]
theorem take_tw (t : List UInt8) : t.take (t.takeWhile (· != 10)).length = t.takeWhile (· != 10) := by
  conv => lhs; arg 2; rw [← List.takeWhile_append_dropWhile (p := (· != (10 : UInt8))) (l := t)]
  rw [List.take_left]
theorem cut_lf (t : List UInt8) : Lib.cut t [10] = match cut1 t with | some (l, r) => (l, r, true) | none => (t, [], false) := by
  unfold Lib.cut cut1
  rw [index_lf]
  by_cases h : 10 ∈ t
  · rw [if_pos h, if_pos h, if_pos (by omega)]
    simp only [Int.toNat_natCast, List.length_singleton]
    rw [take_tw, ← List.drop_drop, drop_tw]
  · rw [if_neg h, if_neg h, if_neg (by decide)]
theorem cut_any {w : World} (hm : MaxV w) (s : ByteArray) (hs : s.size ≤ 65536) : Calls Tryz.prog 54 #[.string s, .string ⟨#[10]⟩] w (fun e w' => ∃ (l r : ByteArray) (b : Bool), e = .returned (.tuple #[.string l, .string r, .bool b]) ∧ cut1 (txt s) = (if b then some (txt l, txt r) else none) ∧ l.size ≤ 65536 ∧ r.size ≤ 65536 ∧ ∃ n, w' = w.drewN n) := by
  obtain ⟨m, hm⟩ := hm
  refine (Tryz.strings_Cut s ⟨#[10]⟩ m w (by omega) hm).mono ?_
  rintro e w' ⟨rfl, n, rfl⟩
  have e1 : Lib.cut s.data.toList (⟨#[10]⟩ : ByteArray).data.toList = Lib.cut (txt s) [10] := rfl
  rw [e1, cut_lf]
  have hsz : (txt s).length = s.size := by simp
  cases h : cut1 (txt s) with
  | none => exact ⟨_, _, false, rfl, rfl, by show (txt s).toArray.size ≤ _; simp; omega, by show (#[] : Array UInt8).size ≤ _; simp, n, rfl⟩
  | some lr =>
    obtain ⟨l, r⟩ := lr
    obtain ⟨h1, _⟩ := cut1_some h
    have h2 : (txt s).length = l.length + (r.length + 1) := by rw [h1]; simp
    exact ⟨_, _, true, rfl, rfl, by show l.toArray.size ≤ _; simp; omega, by show r.toArray.size ≤ _; simp; omega, n, rfl⟩
theorem readLine_banned {k : Nat} {p q : Pl} {ps : List (List UInt8)} (h : readLine k p ps = some q) (hk : k < 2) : q.banned = p.banned := by
  match k, hk with
  | 0, _ =>
    unfold readLine at h
    rw [if_pos rfl] at h
    split at h
    · split at h
      · injection h with h; subst h; rfl
      · cases h
    · cases h
  | 1, _ =>
    have h' : (oneL ps).map (fun n => { p with length := n }) = some q := h
    cases ho : oneL ps with
    | none => rw [ho] at h'; cases h'
    | some n => rw [ho] at h'; injection h' with h'; subst h'; rfl
theorem size35' : (Tryz.prog.info? 35).map (·.size) = some 19 := by kernel_rfl
theorem results26_any {tmps : Array Value} {w : World} {D : Nat} {cs : Array Value} {v3 v4 : Value} (h : Blk w D cs 35) (hs : cs.size = 19) (h2 : tmps.getD 2 undef = .pointer (some ⟨D, 0, none⟩)) (h3 : tmps.getD 3 undef = v3) (h4 : tmps.getD 4 undef = v4) :
    (results Tryz.f26 tmps).run Tryz.prog w = .ok (.tuple #[.agg cs, v3, v4]) w := by
  have hl := run_loadVar_row w D 35 35 cs (0, 0) _ h Tryz.underlying35 rfl (by rw [size35', hs])
  simp only [results, Tryz.results26, List.mapM_toArray, List.mapM_cons, List.mapM_nil, h2, h3, h4, asAddr, pure_bind, map_eq_pure_bind, bind_assoc, Sem.run_bind, Sem.run_pure, hl, Result.andThen_ok]
  rfl
theorem pl_load {w : World} {R : Nat} {cs : Array Value} (h : Blk w R cs 35) (hs : cs.size = 19) : (Instr.loadAt 35 (.pointer (some ⟨R, 0, none⟩))).run Tryz.prog w = .ok (.agg cs) w := by
  simp only [Instr.loadAt, Instr.sureAddr, Sem.run_bind, Sem.run_pure, Result.andThen_ok]
  exact run_loadVar_row w R 35 35 cs (0, 0) _ h Tryz.underlying35 rfl (by rw [size35', hs])
theorem txt_eq {a b : ByteArray} (h : txt a = txt b) : a = b := by
  have h2 : a.data = b.data := Array.toList_inj.1 h
  cases a; cases b; simp only at h2; rw [h2]
/-- What ParsePlant ends in. -/
def RetPl (w : World) (r : Pl × Nat × Int) (e : Ending) (w' : World) : Prop := Below w.heap.size w w' ∧ ∃ (q : PV) (bv : Value) (ss : List ByteArray), e = .returned (.tuple #[.agg (q.cells bv), .int .i64 r.2.1, .int .i64 r.2.2]) ∧ SRw w' bv ss ∧ q.pl (ss.map txt) = r.1
set_option maxRecDepth 100000 in
set_option maxHeartbeats 8000000 in
theorem parsePlant_any {w : World} (he : Env w) (s : ByteArray) (hs : s.size ≤ 65536) : Calls Tryz.prog 26 #[.string s] w (RetPl w (parsePlantT (txt s))) := by
  obtain ⟨res, hres⟩ : ∃ res, res = parsePlantT (txt s) := ⟨_, rfl⟩
  rw [← hres]
  have HRES := Lib.hid hres
  clear hres
  go_enter Tryz.func26, Tryz.ntmps26
  go_wp2_with (first | (go_at_call 53; (with_reducible refine (lines_any _ (w.heap.size + 1) (by simp)).mono ?_); rintro ex w1 ⟨b1, L, hL, rfl, HK⟩) | fail)
  have hs0 : (w.heap.size + 1) < w1.heap.size := Nat.lt_of_lt_of_le (by simp) b1.size
  have hD : Blk w1 w.heap.size (PV.zero.cells (.slice none 0 0)) 35 := ((Blk.new w _ _).alloc _).below b1
  have hPA : PA w1 (w.heap.size + 1) PV.zero (.slice none 0 0) [] := ⟨(Blk.newAt (by simp) _ _).below b1, .inl ⟨rfl, _, _, rfl⟩, (fun L o m c e h => absurd rfl h), fun _ => rfl⟩
  have hL2 : w.heap.size + 2 ≤ L := by simpa using hL
  have hb1 : Below w.heap.size w w1 := (((Below.refl _ w).alloc (Nat.le_refl _) _).alloc (by simp) _).trans (b1.mono (by simp; omega))
  have HL := Lib.hid HK
  have HDB := Lib.hid hD
  have HPA := Lib.hid hPA
  have HE := Lib.hid he
  clear b1 hL HK hD hPA he
  go_loopw [16, 0] (fun t16 t0 wr => ∃ (k : Nat) (s' : ByteArray) (q : PV) (bv : Value) (ss : List ByteArray), t16 = .int .i64 k ∧ t0 = .string s' ∧ k ≤ 13 ∧ s'.size ≤ 65536 ∧ PA wr (w.heap.size + 1) q bv ss ∧ plantGo (plWords.drop k) k (q.pl (ss.map txt)) (txt s') = res ∧ Stays (fun j => j = w.heap.size + 1) w1 wr ∧ (k ≤ 2 → ss = [])) (fun t16 t0 wr => 13 - (intOf t16).toNat)
  case atStart => exact ⟨0, s, PV.zero, .slice none 0 0, [], rfl, rfl, by decide, hs, HPA.out, HRES.out.symm, .refl _ _, fun _ => rfl⟩
  case round =>
    obtain ⟨k, s', q, bv, ss, rfl, rfl, hk, hs', hpa, hgo, hst, hbn⟩ := hrel
    have hszr := hst.size
    have hbw : Below w.heap.size w wr := hb1.trans (hst.below hb1.size (fun j hj e => by omega))
    have HGO := Lib.hid hgo
    have HBN := Lib.hid hbn
    have HPR := Lib.hid hpa
    have HST := Lib.hid hst
    have HBW := Lib.hid hbw
    clear hgo hbn hpa hbw
    by_cases hlt : k < 13
    · obtain ⟨f, ck0, cf0, g, caps, rfl, hent, hrd⟩ := HL.out k hlt
      have d1 : decide ((k : Int) < 13) = true := decide_eq_true (by omega)
      have hLR : L ≠ w.heap.size + 1 := by omega
      have keep : ∀ {o : Nat} {v : Value}, w1.cell? ⟨L, o, none⟩ = some v → wr.cell? ⟨L, o, none⟩ = some v := fun h => (World.cell?_of_block (a := ⟨L, _, none⟩) (hst.block L (World.block_lt_of_cell? w1 _ h) hLR)).trans h
      have ck := keep ck0
      have cf := keep cf0
      generalize hwd : (⟨(plWords.getD k []).toArray⟩ : ByteArray) = wd at ck
      have HWD := Lib.hid hwd
      have HRD := Lib.hid hrd
      have HEN := Lib.hid hent
      clear ck0 cf0 hwd hrd keep hst
      go_upto_region 7 with (first | (go_at_call 54; (with_reducible refine (cut_any (HE.out.maxv.below (HBW.out.alloc HBW.out.size _)) _ hs').mono ?_); rintro ex wz ⟨l, r, b, rfl, hcut, hl, hr, n, rfl⟩) | fail)
      have hTn : wr.heap.size ≠ w.heap.size + 1 := by omega
      obtain ⟨w2, hw2⟩ : ∃ w2, w2 = (wr.alloc (.cells #[.string wd, .func (.func g) #[] caps] 103)).drewN n := ⟨_, rfl⟩
      rw [← hw2]
      have b2 : Below wr.heap.size wr w2 := by rw [hw2]; exact ((Below.refl _ wr).alloc (Nat.le_refl _) _).trans ((drewN_below _ _).mono (by simp))
      have hT : Blk w2 wr.heap.size #[.string wd, .func (.func g) #[] caps] 103 := by rw [hw2]; exact (Blk.new wr _ _).drewN n
      have hs2 : wr.heap.size < w2.heap.size := hT.lt
      have HT2 := Lib.hid hT
      have B2 := Lib.hid b2
      clear hw2 b2 hT ck cf
      have hl5 : w.heap.size + 1 < wr.heap.size := by omega
      go_upto_region 8 with (first | (go_at_call 43; (with_reducible refine (split_any (HE.out.maxv.below (HBW.out.trans (B2.out.mono HBW.out.size))) _ 32 hl).mono ?_); rintro ex wz ⟨ps, rfl, hps, rfl⟩) | fail)
      obtain ⟨w3, hw3⟩ : ∃ w3, w3 = w2.alloc (.cells (ps.map Value.string).toArray 9) := ⟨_, rfl⟩
      rw [← hw3]
      obtain ⟨P, hP⟩ : ∃ P, P = w2.heap.size := ⟨_, rfl⟩
      rw [← hP]
      have b3 : Below wr.heap.size wr w3 := by rw [hw3]; exact B2.out.trans ((Below.refl _ w2).alloc (by omega) _)
      have hT3 : Blk w3 wr.heap.size #[.string wd, .func (.func g) #[] caps] 103 := by rw [hw3]; exact HT2.out.alloc _
      have hP3 : Blk w3 P (ps.map Value.string).toArray 9 := by rw [hw3, hP]; exact Blk.new w2 _ _
      have cT0 : w3.cell? ⟨wr.heap.size, 0, none⟩ = some (.string wd) := (hT3.cell 0).trans rfl
      have cT1 : w3.cell? ⟨wr.heap.size, 1, none⟩ = some (.func (.func g) #[] caps) := (hT3.cell 1).trans rfl
      have hD3 : Blk w3 w.heap.size (PV.zero.cells (.slice none 0 0)) 35 := ((HDB.out.stays HST.out (by omega)).below b3)
      have hPA3 := HPR.out.below b3
      have hbw3 : Below w.heap.size w w3 := HBW.out.trans (b3.mono HBW.out.size)
      have hst3 : Stays (fun j => j = w.heap.size + 1) w1 w3 := HST.out.next b3
      have hps1 : ps ≠ [] := by
        rintro rfl
        exact cutAt_ne 32 _ hps.symm
      have hsr0 : SRw w3 (.slice (some ⟨P, 0, none⟩) ps.length ps.length) ps := .inr ⟨hps1, P, 0, _, rfl, Nat.le_refl _, fun j hj => by
        rw [Nat.zero_add, hP3.cell j]
        simp [hj]⟩
      have HSR := Lib.hid hsr0
      clear hsr0
      obtain ⟨u, us, rfl⟩ := List.exists_cons_of_ne_nil hps1
      have cP : w3.cell? ⟨P, 0, none⟩ = some (.string u) := (hP3.cell 0).trans rfl
      have HPS := Lib.hid hps
      have HCUT := Lib.hid hcut
      have HD3 := Lib.hid hD3
      have HPA3 := Lib.hid hPA3
      have HBW3 := Lib.hid hbw3
      have HST3 := Lib.hid hst3
      have HP3 := Lib.hid hP3
      have hP' : wr.heap.size < P := by omega
      clear hps hcut hD3 hPA3 hbw3 hst3 hP3 hw3 hT3 b3 hP hps1 HT2 B2 hs2
      have hdr : plWords.drop k = plWords.getD k [] :: plWords.drop (k + 1) := by
        have hk13 : k < plWords.length := hlt
        rw [List.drop_eq_getElem_cons hk13, List.getD_eq_getElem?_getD, List.getElem?_eq_getElem hk13]
        rfl
      have HDR := Lib.hid hdr
      clear hdr
      rw [List.length_cons]
      cases b with
      | false =>
        have hrs : res = (plZero, k + 1, 4) := by
          rw [← HGO.out]
          rw [HDR.out]
          unfold plantGo
          rw [HCUT.out]
          rfl
        subst hrs
        go_quiet (fail)
        obtain ⟨w4, hw4⟩ : ∃ w4, w4 = w3.drewN nq := ⟨_, rfl⟩
        rw [← hw4]
        have hD4 : Blk w4 w.heap.size (PV.zero.cells (.slice none 0 0)) 35 := by rw [hw4]; exact HD3.out.drewN _
        have hb4 : Below w.heap.size w w4 := by rw [hw4]; exact HBW3.out.trans ((drewN_below _ _).mono HBW3.out.size)
        clear hw4
        go_wp2_with (refine wpList_unit (o := ⟨none, Op.store 35 (.tmp 2) _, _, _, _, _⟩) rfl rfl (Instr.storeAt 35 _ _) rfl (blk_store (c' := PV.zero.cells (.slice none 0 0)) hD4 size35' rfl rfl) ?_)
        have hD9 := setRow_heap w4 w.heap.size _ (PV.zero.cells (.slice none 0 0)) 35 hD4
        have hb9 := hb4.trans ((setRow_stays w4 w.heap.size (PV.zero.cells (.slice none 0 0))).below hb4.size (fun j hj e => by omega))
        obtain ⟨w9, hw9⟩ : ∃ w9, w9 = w4.setRow w.heap.size (PV.zero.cells (.slice none 0 0)) := ⟨_, rfl⟩
        rw [← hw9] at hD9 hb9
        rw [← hw9]
        refine ⟨rfl, .tuple #[.agg (PV.zero.cells (.slice none 0 0)), .int .i64 ((k + 1 : Nat) : Int), .int .i64 4], ?_, hb9, PV.zero, .slice none 0 0, [], rfl, .inl ⟨rfl, _, _, rfl⟩, rfl⟩
        exact results26_any hD9 rfl rfl rfl rfl
      | true =>
        by_cases hu : u = wd
        rotate_left
        · have hrs : res = (plZero, k + 1, 4) := by
            rw [← HGO.out, HDR.out]
            unfold plantGo
            rw [HCUT.out]
            simp only [if_true]
            rw [← HPS.out, List.map_cons, lineP_cons, if_neg (fun e => hu (txt_eq (e.trans (by rw [← HWD.out]))))]
          have du : (u.toList == wd.toList) = false := by rw [ByteArray.toList_eq, ByteArray.toList_eq]; exact beq_eq_false_iff_ne.2 (fun e => hu (txt_eq e))
          subst hrs
          clear hu
          go_quiet (fail)
          obtain ⟨w4, hw4⟩ : ∃ w4, w4 = w3.drewN nq := ⟨_, rfl⟩
          rw [← hw4]
          have hD4 : Blk w4 w.heap.size (PV.zero.cells (.slice none 0 0)) 35 := by rw [hw4]; exact HD3.out.drewN _
          have hb4 : Below w.heap.size w w4 := by rw [hw4]; exact HBW3.out.trans ((drewN_below _ _).mono HBW3.out.size)
          clear hw4
          go_wp2_with (refine wpList_unit (o := ⟨none, Op.store 35 (.tmp 2) _, _, _, _, _⟩) rfl rfl (Instr.storeAt 35 _ _) rfl (blk_store (c' := PV.zero.cells (.slice none 0 0)) hD4 size35' rfl rfl) ?_)
          have hD9 := setRow_heap w4 w.heap.size _ (PV.zero.cells (.slice none 0 0)) 35 hD4
          have hb9 := hb4.trans ((setRow_stays w4 w.heap.size (PV.zero.cells (.slice none 0 0))).below hb4.size (fun j hj e => by omega))
          obtain ⟨w9, hw9⟩ : ∃ w9, w9 = w4.setRow w.heap.size (PV.zero.cells (.slice none 0 0)) := ⟨_, rfl⟩
          rw [← hw9] at hD9 hb9
          rw [← hw9]
          refine ⟨rfl, .tuple #[.agg (PV.zero.cells (.slice none 0 0)), .int .i64 ((k + 1 : Nat) : Int), .int .i64 4], ?_, hb9, PV.zero, .slice none 0 0, [], rfl, .inl ⟨rfl, _, _, rfl⟩, rfl⟩
          exact results26_any hD9 rfl rfl rfl rfl
        · have du : (u.toList == wd.toList) = true := by rw [hu]; simp
          have hrs : res = match readLine k (q.pl (ss.map txt)) (us.map txt) with | none => (plZero, k + 1, 4) | some q' => plantGo (plWords.drop (k + 1)) (k + 1) q' (txt r) := by
            rw [← HGO.out, HDR.out]
            conv => lhs; unfold plantGo
            rw [HCUT.out]
            simp only [if_true]
            rw [← HPS.out, List.map_cons, lineP_cons, if_pos (by rw [hu, ← HWD.out])]
            cases readLine k (q.pl (ss.map txt)) (us.map txt) <;> rfl
          have hsr := HSR.out
          obtain ⟨g', o', c', he', hc', _, A, hsl, hrt⟩ := srw_tail hsr
          rw [List.length_cons] at he'
          injection he' with e1 _ e3
          injection e1 with e1
          injection e1 with e1 e4 _
          subst e1
          subst e3
          subst e4
          have hcl := cut_len 32 (txt l)
          have hlz : (txt l).length = l.size := by simp
          rw [← HPS.out] at hcl
          have hus : us.length ≤ 65536 := by have := hcl.2; simp at this; omega
          have hup : ∀ p ∈ us, p.size ≤ 65536 := fun p hp => by
            have := hcl.1 (txt p) (List.mem_map.2 ⟨p, by simp [hp], rfl⟩)
            have h2 : (txt p).length = p.size := by simp
            omega
          rw [Nat.add_sub_cancel] at hrt
          have hA : us ≠ [] → A = ⟨P, 0 + 1, none⟩ := fun h => by
            obtain ⟨A', hA', hs'⟩ := tail27 P 0 us.length _ hc'
            have h1 := (hsl w3).symm.trans (hs' w3)
            injection h1 with h1 _
            injection h1 with h1 _ _
            injection h1 with h1
            rw [h1]
            exact hA' (fun e => h (List.length_eq_zero_iff.1 e))
          have hne : ∀ L' o m c, Value.slice (some A) us.length us.length = .slice (some ⟨L', o, none⟩) m c → us ≠ [] → L' ≠ w.heap.size + 1 := fun L' o m c e h => by
            injection e with e _ _
            injection e with e
            have h2 := hA h
            rw [e] at h2
            injection h2 with h2 _ _
            omega
          have hcall := HRD.out w3.drew q bv (.slice (some A) us.length us.length) ss us (HST3.out.drewN 1) (HE.out.below (HBW3.out.trans ((drewN_below w3 1).mono HBW3.out.size))) (HPA3.out.below (drewN_below w3 1)) (hrt.below (drewN_below w3 1)) hus hup hne (fun h => HBN.out (by omega))
          cases hrl : readLine k (q.pl (ss.map txt)) (us.map txt) with
          | none =>
            rw [hrl] at hcall hrs
            have HC := Lib.hid hcall
            simp only at hrs
            subst hrs
            clear hcall hsr hrt hcl hlz hus hup hc' hA hne hrl
            go_region_with (first | ((with_reducible refine (HC.out).mono ?_); rintro ex w4 ⟨hst4, rfl⟩))
            all_goals
              have hD4 : Blk w4 w.heap.size (PV.zero.cells (.slice none 0 0)) 35 := Blk.stays (HD3.out.drewN 1) hst4 (by omega)
              have hb4 : Below w.heap.size w w4 := (HBW3.out.trans ((drewN_below w3 1).mono HBW3.out.size)).trans (hst4.below HBW3.out.size (fun j hj e => by omega))
              have hn9 := hb4.size
              go_wp2_with (refine wpList_unit (o := ⟨none, Op.store 35 (.tmp 2) _, _, _, _, _⟩) rfl rfl (Instr.storeAt 35 _ _) rfl (blk_store (c' := PV.zero.cells (.slice none 0 0)) hD4 size35' rfl rfl) ?_)
              have hD9 := setRow_heap w4 w.heap.size _ (PV.zero.cells (.slice none 0 0)) 35 hD4
              have hb9 := hb4.trans ((setRow_stays w4 w.heap.size (PV.zero.cells (.slice none 0 0))).below hb4.size (fun j hj e => by omega))
              obtain ⟨w9, hw9⟩ : ∃ w9, w9 = w4.setRow w.heap.size (PV.zero.cells (.slice none 0 0)) := ⟨_, rfl⟩
              rw [← hw9] at hD9 hb9
              rw [← hw9]
              refine ⟨rfl, .tuple #[.agg (PV.zero.cells (.slice none 0 0)), .int .i64 ((k + 1 : Nat) : Int), .int .i64 4], ?_, hb9, PV.zero, .slice none 0 0, [], rfl, .inl ⟨rfl, _, _, rfl⟩, rfl⟩
              exact results26_any hD9 rfl rfl rfl rfl
          | some p' =>
            rw [hrl] at hcall hrs
            have HC := Lib.hid hcall
            have HRS := Lib.hid hrs
            have hbn2 : k < 2 → p'.banned = [] := fun h => by
              rw [readLine_banned hrl h]
              show ss.map txt = []
              rw [HBN.out (by omega)]
              rfl
            have HB2 := Lib.hid hbn2
            clear hcall hsr hrt hcl hlz hus hup hc' hA hne hrl hrs hbn2
            go_region_with (first | ((with_reducible refine (HC.out).mono ?_); rintro ex w4 ⟨hst4, rfl, q2, bv2, ss2, hpa4, hq⟩))
            all_goals
              have HQ := Lib.hid hq
              have HPA4 := Lib.hid hpa4
              have HST4 := Lib.hid hst4
              clear hq hpa4 hst4
              go_wp2_with fail
              go_roundw
              case rel => exact ⟨k + 1, r, q2, bv2, ss2, by go_num, rfl, by omega, hr, HPA4.out, by rw [HQ.out, HRS.out], (HST3.out.drewN 1).trans HST4.out, fun h => by
                have h2 : (q2.pl (ss2.map txt)).banned = [] := by rw [HQ.out]; exact HB2.out (by omega)
                exact List.map_eq_nil_iff.1 h2⟩
              case measure => simp [intOf]; omega
    · have hk13 : k = 13 := by omega
      subst hk13
      have hgo2 : plantGo [] 13 (q.pl (ss.map txt)) (txt s') = res := HGO.out
      have hD4 : Blk wr w.heap.size (PV.zero.cells (.slice none 0 0)) 35 := HDB.out.stays HST.out (by omega)
      have hb4 := HBW.out
      by_cases h0 : s' = ⟨#[]⟩
      · have hrs : res = (q.pl (ss.map txt), 0, 0) := by
          rw [← hgo2]
          unfold plantGo
          rw [if_pos (by rw [h0])]
        have d0 : (s'.toList == []) = true := by rw [h0, ByteArray.toList_eq]; rfl
        have d2 : s'.toList.isEmpty = true := by rw [h0, ByteArray.toList_eq]; rfl
        subst hrs
        obtain ⟨ba, bc, rfl⟩ := HPR.out.row.form
        have hpb := HPR.out.blk
        have D2 := Lib.hid d2
        clear h0 hgo2 d2 hst
        go_wp2_with (first | (refine wpList_val (o := ⟨some 58, Op.load 35 _, _, _, _, _⟩) rfl (Instr.loadAt 35 _) rfl _ (pl_load hpb rfl) ?_) | (refine wpList_unit (o := ⟨none, Op.store 35 (.tmp 2) _, _, _, _, _⟩) rfl rfl (Instr.storeAt 35 _ _) rfl (blk_store (c' := q.cells (.slice ba ss.length bc)) hD4 size35' rfl rfl) ?_))
        have hD9 := setRow_heap wr w.heap.size _ (q.cells (.slice ba ss.length bc)) 35 hD4
        have hb9 := hb4.trans ((setRow_stays wr w.heap.size (q.cells (.slice ba ss.length bc))).below hb4.size (fun j hj e => by omega))
        obtain ⟨w9, hw9⟩ : ∃ w9, w9 = wr.setRow w.heap.size (q.cells (.slice ba ss.length bc)) := ⟨_, rfl⟩
        have hr9 : SRw w9 (.slice ba ss.length bc) ss := by
          rw [hw9]
          exact srw_stays HPR.out.row (setRow_stays wr w.heap.size _) (fun L o m' c h h0 e => by
            have := HPR.out.ne L o m' c h h0
            omega)
        rw [← hw9] at hD9 hb9
        rw [← hw9]
        refine ⟨rfl, .tuple #[.agg (q.cells (.slice ba ss.length bc)), .int .i64 ((0 : Nat) : Int), .int .i64 0], ?_, hb9, q, .slice ba ss.length bc, ss, rfl, hr9, rfl⟩
        exact results26_any hD9 rfl rfl rfl rfl
      · have hrs : res = (plZero, 13 + 1, 4) := by
          rw [← hgo2]
          unfold plantGo
          rw [if_neg (fun e => h0 (txt_eq e))]
        have d0 : (s'.toList == []) = false := by rw [ByteArray.toList_eq]; exact beq_eq_false_iff_ne.2 (fun e => h0 (txt_eq e))
        have d2 : s'.toList.isEmpty = false := by
          rw [List.isEmpty_eq_false_iff, ByteArray.toList_eq]; exact fun e => h0 (txt_eq e)
        subst hrs
        clear h0 hgo2 hst
        go_wp2_with (refine wpList_unit (o := ⟨none, Op.store 35 (.tmp 2) _, _, _, _, _⟩) rfl rfl (Instr.storeAt 35 _ _) rfl (blk_store (c' := PV.zero.cells (.slice none 0 0)) hD4 size35' rfl rfl) ?_)
        have hD9 := setRow_heap wr w.heap.size _ (PV.zero.cells (.slice none 0 0)) 35 hD4
        have hb9 := hb4.trans ((setRow_stays wr w.heap.size (PV.zero.cells (.slice none 0 0))).below hb4.size (fun j hj e => by omega))
        obtain ⟨w9, hw9⟩ : ∃ w9, w9 = wr.setRow w.heap.size (PV.zero.cells (.slice none 0 0)) := ⟨_, rfl⟩
        rw [← hw9] at hD9 hb9
        rw [← hw9]
        refine ⟨rfl, .tuple #[.agg (PV.zero.cells (.slice none 0 0)), .int .i64 ((13 + 1 : Nat) : Int), .int .i64 4], ?_, hb9, PV.zero, .slice none 0 0, [], rfl, .inl ⟨rfl, _, _, rfl⟩, rfl⟩
        exact results26_any hD9 rfl rfl rfl rfl
end Go.Proofs.YtddnmocoaahlfaaGreatDoor
