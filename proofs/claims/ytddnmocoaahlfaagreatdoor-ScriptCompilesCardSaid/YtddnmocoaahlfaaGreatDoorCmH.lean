/-
  The reference's Run.one at an assignment. Conditions: the tables lie in memory; the line stands for a statement.
-/
import Derived.Test.YtddnmocoaahlfaaGreatDoorY39
set_option linter.unusedVariables false
set_option linter.unusedSimpArgs false
namespace Go.Proofs.YtddnmocoaahlfaaGreatDoor
open Go.RowKit Go.Shelf
set_option maxRecDepth 100000 in
set_option maxHeartbeats 16000000 in
theorem one_let {w0 : World} {W E L : Value} {T : Tabs} {n i : Nat} {k nm : List UInt8} {t : List (List UInt8)} {xs : List Ex} (kl : k = sLet) (hpg0 : Pg w0 W E L T n) (hi : i < n) (hT : T.W i = k :: t) (hp : partsL k t = some (nm, xs)) : OneC w0 W E L i (i + 1) (.mk (i + 1) k nm xs [] []) := by
  intro w A N V s hb0 hs
  have hpg := hpg0.below hb0
  obtain ⟨hn, ⟨g, c, rfl, hw⟩, ⟨g2, c2, rfl, he⟩, ⟨g3, c3, rfl, hl⟩⟩ := hpg
  obtain ⟨hnc, G, lv, rfl, hcell, ss, hsr, htx, hssl, hssz⟩ := hw i hi
  rw [hT] at htx
  obtain ⟨s0, st, rfl⟩ : ∃ s0 st, ss = s0 :: st := by
    cases ss with
    | nil => cases htx
    | cons a b => exact ⟨a, b, rfl⟩
  simp only [List.map_cons, List.cons.injEq] at htx
  obtain ⟨hk0, hst0⟩ := htx
  obtain ⟨gl, ol, cl, rfl, hcl, hc0, A1, hsl, htl⟩ := srw_tail hsr
  simp only [List.length_cons] at hssl
  have hAs := hs.acts.slc
  obtain ⟨hNs, hVs⟩ := hs.vars.slcs
  have hstep := fun W' => rstep_any W' hAs hNs hVs (st := s.steps) hs.steps 0 0 ((i : Int) + 1)
  obtain ⟨a1, a3, rfl, _⟩ := acts_form hs.acts
  clear hAs
  obtain ⟨n1, n2, n3, rfl⟩ := hNs
  obtain ⟨v1, v2, v3, rfl⟩ := hVs
  obtain ⟨res, hres⟩ : ∃ res, res = runS (.mk (i + 1) k nm xs [] []) s := ⟨_, rfl⟩
  rw [← hres]
  obtain ⟨w2, hw2, l2, B1, B2, B3, z2⟩ := one_pre w (rnC (.slice a1 s.acts.length a3) (.slice n1 n2 n3) (.slice v1 v2 v3) s.steps 0 0) #[.slice (some ⟨G, 0, none⟩) n c, .slice g2 n c2, .slice g3 n c3]
  have hbw := hs.base
  have hs2 := hs.below l2
  have p0 : w2.cell? ⟨w.heap.size + 1, 0, none⟩ = some (.slice (some ⟨G, 0, none⟩) n c) := (B2.cell 0).trans rfl
  have hcell2 := cell_below hcell l2
  have hz1 : w.heap.size + 1 < w2.heap.size := by omega
  have hz0 : w.heap.size < w2.heap.size := by omega
  have HW := Lib.hid hw2
  have HSTEP := Lib.hid (hstep w2)
  have HRES := Lib.hid hres
  have HS2 := Lib.hid hs2
  have HB1 := Lib.hid B1
  have HB2 := Lib.hid B2
  have HB3 := Lib.hid B3
  have HSR := Lib.hid (hsr.below l2)
  have HTL := Lib.hid (htl.below l2)
  have HTLW := Lib.hid htl
  have HSRW := Lib.hid hsr
  have HCW := Lib.hid hc0
  have HSL := Lib.hid hsl
  have HC0 := Lib.hid (cell_below hc0 l2)
  have HK := Lib.hid hk0
  have HST := Lib.hid hst0
  have HSZ := Lib.hid hssz
  have HE := Lib.hid he
  have HL := Lib.hid hl
  have HL2 := Lib.hid l2
  have HP := Lib.hid hp
  have HB0 := Lib.hid hb0
  have H16 := Lib.hid hs.steps
  clear hw2 hstep hres hs2 B1 B2 B3 hsr htl hsl hc0 hk0 hst0 hssz he hl hs l2 hp hpg0 hw hcell hT hb0
  have hi9 : (i : Int) + 1 ≤ 65537 := by omega
  go_enter Tryz.func109, Tryz.ntmps109
  go_upto_region 1 with fail
  rw [← HW.out]
  go_wp2_with (first | (refine wpList_val (o := ⟨some 24, Op.load 130 _, _, _, _, _⟩) rfl (Instr.loadAt 130 _) rfl _ (rn_load HB1.out) ?_) | fail)
  refine HSTEP.out.mono ?_
  rintro ex w3 ⟨b3, rfl⟩
  have l3 := HL2.out.trans (b3.mono HL2.out.size)
  have B13 := HB1.out.below b3
  have B23 := HB2.out.below b3
  have B33 := HB3.out.below b3
  have S3 := HS2.out.below b3
  have T3 := HTL.out.below b3
  have R3 := HSR.out.below b3
  have C3 := cell_below HC0.out b3
  have hz3 := b3.size
  by_cases h16 : s.steps = 16384
  · rw [if_pos h16]
    have hr : res = .error (5, i + 1) := by rw [HRES.out, runS_stop h16]
    have B14 := setRow_heap w3 w.heap.size _ (rnC (.slice a1 s.acts.length a3) (.slice n1 n2 n3) (.slice v1 v2 v3) s.steps 5 ((i : Int) + 1)) 130 B13
    have s4 := setRow_stays w3 w.heap.size (rnC (.slice a1 s.acts.length a3) (.slice n1 n2 n3) (.slice v1 v2 v3) s.steps 5 ((i : Int) + 1))
    have B34 := B33.stays s4 (by omega)
    obtain ⟨w4, hw4⟩ : ∃ w4, w4 = w3.setRow w.heap.size (rnC (.slice a1 s.acts.length a3) (.slice n1 n2 n3) (.slice v1 v2 v3) s.steps 5 ((i : Int) + 1)) := ⟨_, rfl⟩
    have l4 : Below w.heap.size w w4 := by rw [hw4]; exact l3.trans (s4.below l3.size (fun j hj e => by have e' : j = w.heap.size := e; omega))
    have hst4 := blk_store (c' := rnC (.slice a1 s.acts.length a3) (.slice n1 n2 n3) (.slice v1 v2 v3) s.steps 5 ((i : Int) + 1)) B13 size130 rfl rfl
    rw [← hw4] at B14 B34 hst4
    have y4 : w4.cell? ⟨w.heap.size, 4, none⟩ = some (.int .i64 5) := (B14.cell 4).trans rfl
    have HST4 := Lib.hid hst4
    have hfin : RetOne w0.heap.size w res (i + 1) (.returned (.tuple #[rnV (.slice a1 s.acts.length a3) (.slice n1 n2 n3) (.slice v1 v2 v3) s.steps 5 ((i : Int) + 1), .int .i64 (i : Int)])) (w4.setRow (w.heap.size + 1 + 1) (rnC (.slice a1 s.acts.length a3) (.slice n1 n2 n3) (.slice v1 v2 v3) s.steps 5 ((i : Int) + 1))) := by
      rw [hr]
      exact one_end (line := i + 1) (by omega) (l4.mono hbw) (.below l4) B34 (by omega) (by decide) ⟨_, _, _, rfl⟩ ⟨_, _, _, rfl⟩ ⟨_, _, _, rfl⟩
    have HFIN := Lib.hid hfin
    clear hst4 hw4 s4 S3 T3 R3 C3 hr h16 hfin p0 hcell2
    go_wp2_with (first | (refine wpList_unit (o := ⟨none, Op.store 130 (.tmp 3) _, _, _, _, _⟩) rfl rfl (Instr.storeAt 130 _ _) rfl HST4.out ?_) | (refine wpList_val (o := ⟨some 30, Op.load 130 _, _, _, _, _⟩) rfl (Instr.loadAt 130 _) rfl _ (rn_load B14) ?_) | (refine wpList_unit (o := ⟨none, Op.store 130 (.tmp 6) _, _, _, _, _⟩) rfl rfl (Instr.storeAt 130 _ _) rfl (blk_store (c' := rnC (.slice a1 s.acts.length a3) (.slice n1 n2 n3) (.slice v1 v2 v3) s.steps 5 ((i : Int) + 1)) B34 size130 rfl rfl) ?_) | fail)
    exact ⟨rfl, _, res109 (setRow_heap w4 (w.heap.size + 1 + 1) _ (rnC (.slice a1 s.acts.length a3) (.slice n1 n2 n3) (.slice v1 v2 v3) s.steps 5 ((i : Int) + 1)) 130 B34) rfl rfl rfl, HFIN.out⟩
  rw [if_neg h16]
  have h17 : s.steps + 1 ≤ 16384 := by have := H16.out; omega
  have B14 := setRow_heap w3 w.heap.size _ (rnC (.slice a1 s.acts.length a3) (.slice n1 n2 n3) (.slice v1 v2 v3) (s.steps + 1 : Nat) 0 0) 130 B13
  have s4 := setRow_stays w3 w.heap.size (rnC (.slice a1 s.acts.length a3) (.slice n1 n2 n3) (.slice v1 v2 v3) (s.steps + 1 : Nat) 0 0)
  have B24 := B23.stays s4 (by omega)
  have B34 := B33.stays s4 (by omega)
  have S4r := S3.stays B13 (by decide) s4
  obtain ⟨w4, hw4⟩ : ∃ w4, w4 = w3.setRow w.heap.size (rnC (.slice a1 s.acts.length a3) (.slice n1 n2 n3) (.slice v1 v2 v3) (s.steps + 1 : Nat) 0 0) := ⟨_, rfl⟩
  have hglw : gl < w.heap.size + 0 + 1 ∨ True := .inr trivial
  have hglt : gl < w.heap.size := World.block_lt_of_cell? w _ HCW.out
  have srest : ∀ {v : Value} {l : List ByteArray}, SRw w v l → SRw w4 v l := fun h => by
    rw [hw4]
    exact srw_stays ((h.below HL2.out).below b3) s4 (fun L' o' m' c' e h0 e' => by have e' : L' = w.heap.size := e'; have := srw_lo h e h0; omega)
  have l4 : Below w.heap.size w w4 := by rw [hw4]; exact l3.trans (s4.below l3.size (fun j hj e => by have e' : j = w.heap.size := e; omega))
  have hst4 := blk_store (c' := rnC (.slice a1 s.acts.length a3) (.slice n1 n2 n3) (.slice v1 v2 v3) (s.steps + 1 : Nat) 0 0) B13 size130 rfl rfl
  rw [← hw4] at B14 B24 B34 hst4 S4r
  have VV4 := Lib.hid S4r.vars
  have S4 : RnSt w4 w0.heap.size (.slice a1 s.acts.length a3) (.slice n1 n2 n3) (.slice v1 v2 v3) ⟨s.vars, s.steps + 1, s.acts⟩ := ⟨S4r.acts, S4r.vars.more (Nat.le_succ _), h17, S4r.alen, S4r.base⟩
  have T4 := srest HTLW.out
  have R4 := srest HSRW.out
  have C4 : w4.cell? ⟨gl, ol, none⟩ = some (.string s0) := cell_below HCW.out l4
  have y4 : w4.cell? ⟨w.heap.size, 4, none⟩ = some (.int .i64 0) := (B14.cell 4).trans rfl
  have HST4 := Lib.hid hst4
  have HW4 := Lib.hid hw4
  have hz4 := l4.size
  have hz4' : w.heap.size + 1 + 1 < w4.heap.size := B34.lt
  clear hst4 hw4 s4 S3 T3 R3 C3 h16 S4r srest p0 hcell2 B13 B23 B33 hz3 l3 b3
  have f1 : (s0.toList == [108, 101, 116]) = true := (lit_str s0 sLet).trans (decide_eq_true (by rw [HK.out]; exact kl))
  obtain ⟨t', ht', hlt', hxs⟩ := parts_named1 (nm := nm) (xs := xs) (t := t) (by rw [← kl]; exact HP.out)
  obtain ⟨x, st', hst', hxn, hst2⟩ : ∃ x st', st = x :: st' ∧ txt x = nm ∧ st'.map txt = t' := by
    have h := HST.out
    rw [ht'] at h
    cases st with
    | nil => cases h
    | cons a b =>
      simp only [List.map_cons, List.cons.injEq] at h
      exact ⟨a, b, rfl, h.1, h.2⟩
  have hslen : st.length + 1 = st'.length + 2 := by rw [hst']; rfl
  have hst'l : st'.length = 1 := by rw [← hlt', ← hst2, List.length_map]
  have hst'le : st'.length ≤ 1 := by omega
  obtain ⟨A2, hs2, T42⟩ := srw_tail2 (show SRw w4 (.slice (some ⟨gl, ol, none⟩) (st.length + 1) cl) (s0 :: x :: st') by rw [← hst']; exact R4)
  have hs2' : ∀ w, (Instr.sliceAt 27 (.slice (some ⟨gl, ol, none⟩) (st.length + 1) cl) (some (.int .i64 2)) none none).run Tryz.prog w = .ok (.slice (some A2) st'.length (cl - 2)) w := by rw [hslen]; exact hs2
  have HS2 := Lib.hid hs2'
  have CX4 : w4.cell? ⟨gl, ol + 1, none⟩ = some (.string x) := by
    obtain ⟨L', o', e', h⟩ := srw_get (show SRw w4 (.slice (some ⟨gl, ol, none⟩) (st.length + 1) cl) (s0 :: x :: st') by rw [← hst']; exact R4) (i := 1) (by simp)
    cases e'
    exact h
  have HXN := Lib.hid hxn
  have hxz : x.size ≤ 65536 := HSZ.out x (by rw [hst']; simp)
  have hszw : ∀ y ∈ st', y.size ≤ 65536 := fun y hy => HSZ.out y (by rw [hst']; simp [hy])
  have HXS := Lib.hid hxs
  have hcl2 : 2 ≤ cl := by omega
  have HLT := Lib.hid hlt'
  have HST2 := Lib.hid hst2
  have HSTX := Lib.hid hst'
  clear hs2 hs2' hxn hslen hst'l hlt' hxs hst2 hst' ht'
  obtain ⟨er0, her0⟩ : ∃ er0, er0 = evalAll s.vars xs := ⟨_, rfl⟩
  obtain ⟨cs1, hcs1⟩ : ∃ cs1, cs1 = EvCs (.slice a1 s.acts.length a3) (.slice n1 n2 n3) (.slice v1 v2 v3) (s.steps + 1 : Nat) ((i : Int) + 1) er0 := ⟨_, rfl⟩
  have hcs2 : cs1.size = 6 ∧ cs1.toList.all (·.oneCell') = true := by rw [hcs1]; unfold EvCs; cases er0 <;> exact ⟨rfl, rfl⟩
  have HCS := Lib.hid hcs2
  have HCS1 := Lib.hid hcs1
  have HER := Lib.hid her0
  have hcall : ∀ W', Below w4.heap.size w4 W' → Calls Tryz.prog 133 #[rnV (.slice a1 s.acts.length a3) (.slice n1 n2 n3) (.slice v1 v2 v3) (s.steps + 1 : Nat) 0 0, .slice (some A2) st'.length (cl - 2), .int .i64 ((i : Int) + 1)] W' (fun x w' => Below W'.heap.size W' w' ∧ ∃ u, x = .returned u ∧ (KEv er0 w4.heap.size cs1).p u w') := fun W' hW' => by
    obtain ⟨ns, vs, hN, hV, hlen, hsc, _, hm⟩ := S4.vars
    have hns : SRw W' (.slice n1 n2 n3) ns := (srow_of (own_below hN hW')).rw
    have hvs : NRow W' (.slice v1 v2 v3) vs := nrow_of (own_below hV hW')
    have hev := reval_any (A := .slice a1 s.acts.length a3) (w := W') (ws := st') (xs := xs) ⟨_, _, _, rfl⟩ hns hvs (by simp only at hm; omega) (by simp only at hm; omega) (T42.below hW') (by omega) hszw (by rw [HST2.out]; exact HXS.out) ((s.steps + 1 : Nat) : Int) 0 0 ((i : Int) + 1)
    rw [hsc, ← her0] at hev
    exact hev.mono fun x w' h => ev_keep hW'.size hcs1 h
  have HC := Lib.hid hcall
  clear hcall hcs1 her0 hcs2
  go_upto_region 7 with (first | (refine wpList_unit (o := ⟨none, Op.store 130 (.tmp 3) _, _, _, _, _⟩) rfl rfl (Instr.storeAt 130 _ _) rfl HST4.out ?_) | fail)
  go_cut [10, 11] (fun vd vv wx => ∃ R8, vd = .pointer (some ⟨R8, 0, none⟩) ∧ w4.heap.size ≤ R8 ∧ Blk wx R8 cs1 130 ∧ EvVal er0 w4.heap.size vv wx ∧ Below w4.heap.size w4 wx)
  case first =>
    obtain ⟨ks, hks⟩ : ∃ ks : List Kp, ks = [.is (rnV (.slice a1 s.acts.length a3) (.slice n1 n2 n3) (.slice v1 v2 v3) (s.steps + 1 : Nat) 0 0), .is (.slice (some ⟨gl, ol, none⟩) (st.length + 1) cl), .is (.slice (some A2) st'.length (cl - 2)), .is (.int .i64 ((i : Int) + 1)), KEv er0 w4.heap.size cs1, KEv er0 w4.heap.size cs1, .is (.agg cs1), KVl er0 w4.heap.size, KRb w4] := ⟨_, rfl⟩
    refine region_open ?_
    intro ops hops a0 ha0
    have hfine : fineOps2 ops a0.tmps.size = true := by rw [hops, ha0]; kernel_rfl
    have htail : tailOps2 ops 9 7 = true := by rw [hops]; kernel_rfl
    have nd3 : noDst ops 3 = true := by rw [hops]; kernel_rfl
    have nd8 : noDst ops 8 = true := by rw [hops]; kernel_rfl
    have nd9 : noDst ops 9 = true := by rw [hops]; kernel_rfl
    have e3 : a0.eval (.tmp 3) = .pointer (some ⟨w.heap.size, 0, none⟩) := by rw [ha0]; rfl
    have e8 : a0.eval (.tmp 8) = .slice (some ⟨gl, ol, none⟩) (st.length + 1) cl := by rw [ha0]; rfl
    have e9x : a0.eval (.tmp 9) = .int .i64 ((i : Int) + 1) := by rw [ha0]; rfl
    have h0 : OpIs ops 0 (.load 130 (.tmp 3)) 43 [] := by rw [hops]; exact ⟨_, rfl, rfl, rfl, depsOk_spec (by kernel_rfl)⟩
    have h1 : OpIs ops 1 (.move (.tmp 8)) 44 [] := by rw [hops]; exact ⟨_, rfl, rfl, rfl, depsOk_spec (by kernel_rfl)⟩
    have h2 : OpIs ops 2 (.slice 27 (.tmp 44) (some (.const (.int .i64 2))) none none) 45 [1] := by rw [hops]; exact ⟨_, rfl, rfl, rfl, depsOk_spec (by kernel_rfl)⟩
    have h3 : OpIs ops 3 (.move (.tmp 9)) 46 [] := by rw [hops]; exact ⟨_, rfl, rfl, rfl, depsOk_spec (by kernel_rfl)⟩
    have h4 : OpIs ops 4 (.call { callee := .value (.func 133), args := #[.tmp 43, .tmp 45, .tmp 46], argTypes := #[130, 27, 3] }) 47 [0, 2, 3] := by rw [hops]; exact ⟨_, rfl, rfl, rfl, depsOk_spec (by kernel_rfl)⟩
    have h5 : OpIs ops 5 (.move (.tmp 47)) 42 [4] := by rw [hops]; exact ⟨_, rfl, rfl, rfl, depsOk_spec (by kernel_rfl)⟩
    have h6 : OpIs ops 6 (.extract (.tmp 42) 0) 48 [5] := by rw [hops]; exact ⟨_, rfl, rfl, rfl, depsOk_spec (by kernel_rfl)⟩
    have h7 : OpIs ops 7 (.extract (.tmp 42) 1) 49 [5] := by rw [hops]; exact ⟨_, rfl, rfl, rfl, depsOk_spec (by kernel_rfl)⟩
    have h8 : OpIs ops 8 (.alloc 130) 10 [] := by rw [hops]; exact ⟨_, rfl, rfl, rfl, depsOk_spec (by kernel_rfl)⟩
    have hsize : ops.size = 11 := by rw [hops]; rfl
    refine wp_region_mdt2 9 7 follows_mixed hfine htail (GK ks) (GK.stable ks) ?_ ?_ ?_
    · have hfix : ∀ (i : Nat) (u : Value), ks[i]? = some (.is u) → ∀ v w', GK ks i v w' → v = u := fun i u hi v w' h => by
        have h' : (ks.getD i Kp.any).p v w' := h
        rw [List.getD_eq_getElem?_getD, hi] at h'
        exact h'
      have put : ∀ (i : Nat) (u : Value), ks[i]? = some (.is u) → ∀ w', GK ks i u w' := fun i u hi w' => by
        show (ks.getD i Kp.any).p u w'
        rw [List.getD_eq_getElem?_getD, hi]
        rfl
      have gk : ∀ (i : Nat) (u : Kp), ks[i]? = some u → GK ks i = u.p := fun i u hi => by
        show (ks.getD i Kp.any).p = u.p
        rw [List.getD_eq_getElem?_getD, hi]
        rfl
      have k0 : ks[0]? = some (.is (rnV (.slice a1 s.acts.length a3) (.slice n1 n2 n3) (.slice v1 v2 v3) (s.steps + 1 : Nat) 0 0)) := by rw [hks]; rfl
      have k1 : ks[1]? = some (.is (.slice (some ⟨gl, ol, none⟩) (st.length + 1) cl)) := by rw [hks]; rfl
      have k2 : ks[2]? = some (.is (.slice (some A2) st'.length (cl - 2))) := by rw [hks]; rfl
      have k3 : ks[3]? = some (.is (.int .i64 ((i : Int) + 1))) := by rw [hks]; rfl
      have k4 : ks[4]? = some (KEv er0 w4.heap.size cs1) := by rw [hks]; rfl
      have k5 : ks[5]? = some (KEv er0 w4.heap.size cs1) := by rw [hks]; rfl
      have k6 : ks[6]? = some (.is (.agg cs1)) := by rw [hks]; rfl
      have k7 : ks[7]? = some (KVl er0 w4.heap.size) := by rw [hks]; rfl
      have k8 : ks[8]? = some (KRb w4) := by rw [hks]; rfl
      have q0 : ∀ Q, OkG Tryz.prog ops Q (GK ks) a0 w4 0 := fun Q => okG_val h0 (fun ρ => Instr.loadAt 130 (ρ (.tmp 3))) (fun ρ o ho => by unfold execOp; rw [ho]) fun a w' hc => by
        rw [hc.out 3 nd3, e3]
        exact ⟨_, w', rn_load (B14.below hc.below), put 0 _ k0 _, Below.refl _ _⟩
      have q1 : ∀ Q, OkG Tryz.prog ops Q (GK ks) a0 w4 1 := fun Q => okG_move h1 (.inl rfl) fun a w' hc => by rw [hc.out 8 nd8, e8]; exact put 1 _ k1 _
      have q2 : ∀ Q, OkG Tryz.prog ops Q (GK ks) a0 w4 2 := fun Q => okG_val h2 (fun ρ => Instr.sliceAt 27 (ρ (.tmp 44)) (some (ρ (.const (.int .i64 2)))) none none) (fun ρ o ho => by unfold execOp; rw [ho]; rfl) fun a w' hc => by
        rw [hfix 1 _ k1 _ _ (hc.get (by simp) h1), eval_const]
        exact ⟨_, w', HS2.out w', put 2 _ k2 _, Below.refl _ _⟩
      have q3 : ∀ Q, OkG Tryz.prog ops Q (GK ks) a0 w4 3 := fun Q => okG_move h3 (.inl rfl) fun a w' hc => by rw [hc.out 9 nd9, e9x]; exact put 3 _ k3 _
      have q4 : ∀ Q, OkG Tryz.prog ops Q (GK ks) a0 w4 4 := fun Q => okG_call h4 fun o a w' ho hc => ⟨_, ent3 (enters_of Tryz.func133 (by kernel_rfl) rfl) _ _ _ _ a o w' ho, by
        rw [hfix 0 _ k0 _ _ (hc.get (by simp) h0), hfix 2 _ k2 _ _ (hc.get (by simp) h2), hfix 3 _ k3 _ _ (hc.get (by simp) h3), gk 4 _ k4]
        exact HC.out w' hc.below⟩
      have q5 : ∀ Q, OkG Tryz.prog ops Q (GK ks) a0 w4 5 := fun Q => okG_move h5 (.inl rfl) fun a w' hc => by
        have := hc.get (by simp) h4
        rw [gk 4 _ k4] at this
        rw [gk 5 _ k5]; exact this
      have q6 : ∀ Q, OkG Tryz.prog ops Q (GK ks) a0 w4 6 := fun Q => okG_val h6 (fun ρ => Instr.extract (ρ (.tmp 42)) 0) (fun ρ o ho => by unfold execOp; rw [ho]) fun a w' hc => by
        have := hc.get (by simp) h5
        rw [gk 5 _ k5] at this
        obtain ⟨v, e, h⟩ := this
        rw [e]
        exact ⟨_, w', tup0 _ _ w', put 6 _ k6 _, Below.refl _ _⟩
      have q7 : ∀ Q, OkG Tryz.prog ops Q (GK ks) a0 w4 7 := fun Q => okG_val h7 (fun ρ => Instr.extract (ρ (.tmp 42)) 1) (fun ρ o ho => by unfold execOp; rw [ho]) fun a w' hc => by
        have := hc.get (by simp) h5
        rw [gk 5 _ k5] at this
        obtain ⟨v, e, h⟩ := this
        rw [e, gk 7 _ k7]
        exact ⟨_, w', tup1 _ _ w', h, Below.refl _ _⟩
      have q8 : ∀ Q, OkG Tryz.prog ops Q (GK ks) a0 w4 8 := fun Q => okG_val h8 (fun ρ => Instr.alloc 130 true (.tuple #[])) (fun ρ o ho => by unfold execOp; rw [ho]) fun a w' hc => by
        rw [gk 8 _ k8]
        exact ⟨_, _, zero130 w', ⟨w'.heap.size, rfl, Blk.new w' _ _, hc.below.size⟩, (Below.refl _ _).alloc (Nat.le_refl _) _⟩
      intro i o hi ho
      match i, hi with
      | 0, _ => exact q0 _ o ho
      | 1, _ => exact q1 _ o ho
      | 2, _ => exact q2 _ o ho
      | 3, _ => exact q3 _ o ho
      | 4, _ => exact q4 _ o ho
      | 5, _ => exact q5 _ o ho
      | 6, _ => exact q6 _ o ho
      | 7, _ => exact q7 _ o ho
      | 8, _ => exact q8 _ o ho
      | n + 9, h => exact absurd h (by omega)
    · intro vals w5 b5 hsaid
      have ev6 : vals 6 = .agg cs1 := by have g := hsaid 6 (by decide); rw [hks] at g; exact g
      obtain ⟨R8, ev8, B8, hR8⟩ : (KRb w4).p (vals 8) w5 := by have g := hsaid 8 (by decide); rw [hks] at g; exact g
      have hv5 : (KVl er0 w4.heap.size).p (vals 7) w5 := by have g := hsaid 7 (by decide); rw [hks] at g; exact g
      obtain ⟨v5, ev7⟩ : ∃ v5, vals 7 = v5 := ⟨_, rfl⟩
      rw [ev7] at hv5
      have hv5' : EvVal er0 w4.heap.size v5 w5 := hv5
      rw [hsize]
      simp only [laid, h0.dst, h1.dst, h2.dst, h3.dst, h4.dst, h5.dst, h6.dst, h7.dst, h8.dst, ha0, Act.put, Nat.reduceLT, decide_true, decide_false, if_true, if_false, Bool.false_eq_true, Bool.and_true, Bool.and_false, Bool.false_and, Bool.true_and, ne_eq, not_true_eq_false, not_false_eq_true, Nat.reduceEqDiff]
      simp only [List.setIfInBounds_toArray, List.set_cons_succ, List.set_cons_zero]
      rw [ev6, ev7, ev8, hops]
      change wpList _ _ _ [_, _] _ _
      have s5 := setRow_stays w5 R8 cs1
      have b6 : Below w4.heap.size w4 (w5.setRow R8 cs1) := b5.trans (s5.below b5.size (fun j hj e => by have e' : j = R8 := e; omega))
      have B9 := setRow_heap w5 R8 _ cs1 130 B8
      have hst9 := blk_store (c' := cs1) B8 (by rw [size130, HCS.out.1]) (by rw [HCS.out.1]; rfl) HCS.out.2
      have hv6 := EvVal.store hv5' B8 cs1
      obtain ⟨w6, hw6⟩ : ∃ w6, w6 = w5.setRow R8 cs1 := ⟨_, rfl⟩
      rw [← hw6] at B9 b6 hst9 hv6
      have HST9 := Lib.hid hst9
      have HEND := Lib.hid (show ∃ R8 v5, (Value.pointer (some ⟨R8, 0, none⟩) = .pointer (some ⟨R8, 0, none⟩)) ∧ w4.heap.size ≤ R8 ∧ Blk w6 R8 cs1 130 ∧ EvVal er0 w4.heap.size v5 w6 ∧ Below w4.heap.size w4 w6 from ⟨R8, v5, rfl, hR8, B9, hv6, b6⟩)
      have HB9 := Lib.hid B9
      have HV6 := Lib.hid hv6
      have HB6 := Lib.hid b6
      clear ha0 h0 h1 h2 h3 h4 h5 h6 h7 h8 hfine htail nd3 nd8 nd9 e3 e8 e9x hsaid hks B8 hst9 hw6 s5 b5 B9 b6 hv6 hv5 hv5' HEND
      go_wp2_with (first | (refine wpList_unit (o := ⟨none, Op.store 130 (.tmp 10) _, _, _, _, _⟩) rfl rfl (Instr.storeAt 130 _ _) rfl HST9.out ?_) | fail)
      go_meet
      exact ⟨R8, rfl, hR8, HB9.out, HV6.out, HB6.out⟩
    · intro vals w5 b5 hsaid
      have ev6 : vals 6 = .agg cs1 := by have g := hsaid 6 (by decide) (by decide); rw [hks] at g; exact g
      obtain ⟨R8, ev8, B8, hR8⟩ : (KRb w4).p (vals 8) w5 := by have g := hsaid 8 (by decide) (by decide); rw [hks] at g; exact g
      obtain ⟨v5, ev5, hv5⟩ : (KEv er0 w4.heap.size cs1).p (vals 5) w5 := by have g := hsaid 5 (by decide) (by decide); rw [hks] at g; exact g
      obtain ⟨o9, e9⟩ : ∃ o, ops[9]? = some o := ⟨ops[9]'(by rw [hsize]; decide), Array.getElem?_eq_getElem _⟩
      obtain ⟨o7, e7⟩ : ∃ o, ops[7]? = some o := ⟨ops[7]'(by rw [hsize]; decide), Array.getElem?_eq_getElem _⟩
      obtain ⟨o10, e10⟩ : ∃ o, ops[10]? = some o := ⟨ops[10]'(by rw [hsize]; decide), Array.getElem?_eq_getElem _⟩
      refine ⟨o9, [o7, o10], e9, by rw [hsize]; rfl, fun j => ?_, ?_⟩
      · rw [hsize]
        match j with
        | 0 => exact e7.symm
        | 1 => exact e10.symm
        | n + 2 => rfl
      rw [hops] at e7 e9 e10
      change some _ = some _ at e7
      change some _ = some _ at e9
      change some _ = some _ at e10
      injection e7 with e7
      injection e9 with e9
      injection e10 with e10
      subst e7 e9 e10
      have hv5' : EvVal er0 w4.heap.size v5 w5 := hv5
      rw [hsize]
      simp only [laid, h0.dst, h1.dst, h2.dst, h3.dst, h4.dst, h5.dst, h6.dst, h7.dst, h8.dst, ha0, Act.put, Nat.reduceLT, decide_true, decide_false, if_true, if_false, Bool.false_eq_true, Bool.and_true, Bool.and_false, Bool.false_and, Bool.true_and, ne_eq, not_true_eq_false, not_false_eq_true, Nat.reduceEqDiff]
      simp only [List.setIfInBounds_toArray, List.set_cons_succ, List.set_cons_zero]
      rw [ev6, ev5, ev8, hops]
      have s5 := setRow_stays w5 R8 cs1
      have b6 : Below w4.heap.size w4 (w5.setRow R8 cs1) := b5.trans (s5.below b5.size (fun j hj e => by have e' : j = R8 := e; omega))
      have B9 := setRow_heap w5 R8 _ cs1 130 B8
      have hst9 := blk_store (c' := cs1) B8 (by rw [size130, HCS.out.1]) (by rw [HCS.out.1]; rfl) HCS.out.2
      have hv6 := EvVal.store hv5' B8 cs1
      obtain ⟨w6, hw6⟩ : ∃ w6, w6 = w5.setRow R8 cs1 := ⟨_, rfl⟩
      rw [← hw6] at B9 b6 hst9 hv6
      have HST9 := Lib.hid hst9
      have HEND := Lib.hid (show ∃ R8 v5, (Value.pointer (some ⟨R8, 0, none⟩) = .pointer (some ⟨R8, 0, none⟩)) ∧ w4.heap.size ≤ R8 ∧ Blk w6 R8 cs1 130 ∧ EvVal er0 w4.heap.size v5 w6 ∧ Below w4.heap.size w4 w6 from ⟨R8, v5, rfl, hR8, B9, hv6, b6⟩)
      have HB9 := Lib.hid B9
      have HV6 := Lib.hid hv6
      have HB6 := Lib.hid b6
      clear ha0 h0 h1 h2 h3 h4 h5 h6 h7 h8 hfine htail nd3 nd8 nd9 e3 e8 e9x hsaid hks B8 hst9 hw6 s5 b5 B9 b6 hv6 hv5 hv5' HEND
      go_wp2_with (first | (refine wpList_unit (o := ⟨none, Op.store 130 (.tmp 10) _, _, _, _, _⟩) rfl rfl (Instr.storeAt 130 _ _) rfl HST9.out ?_) | fail)
      go_meet
      exact ⟨R8, rfl, hR8, HB9.out, HV6.out, HB6.out⟩
  case rest =>
  obtain ⟨R8, rfl, hR8, B85, hev5, b45⟩ := hcut
  obtain ⟨w5, hw5⟩ : ∃ w5, w5 = wc := ⟨_, rfl⟩
  rw [← hw5] at B85 hev5 b45 ⊢
  clear hw5
  have l5 := l4.trans (b45.mono l4.size)
  have B15 := B14.below b45
  have B25 := B24.below b45
  have B35 := B34.below b45
  have S5 := S4.below b45
  have R5 := R4.below b45
  have C5 := cell_below C4 b45
  have hz5 := b45.size
  clear B14 B24 B34 S4 R4 C4 HC T4
  cases er0 with
  | error e =>
    have hcs : cs1 = rnC (.slice a1 s.acts.length a3) (.slice n1 n2 n3) (.slice v1 v2 v3) (s.steps + 1 : Nat) e ((i : Int) + 1) := HCS1.out
    subst hcs
    have hr : res = .error (e, i + 1) := by rw [HRES.out, runS_everr h17 HER.out.symm]
    have he0 := evAll_err HER.out.symm
    have d : (e != 0) = true := by simp; omega
    have y8 : w5.cell? ⟨R8, 4, none⟩ = some (.int .i64 e) := (B85.cell 4).trans rfl
    have hfin : RetOne w0.heap.size w res (i + 1) (.returned (.tuple #[rnV (.slice a1 s.acts.length a3) (.slice n1 n2 n3) (.slice v1 v2 v3) (s.steps + 1 : Nat) e ((i : Int) + 1), .int .i64 (i : Int)])) (w5.setRow (w.heap.size + 1 + 1) (rnC (.slice a1 s.acts.length a3) (.slice n1 n2 n3) (.slice v1 v2 v3) (s.steps + 1 : Nat) e ((i : Int) + 1))) := by
      rw [hr]
      exact one_end (line := i + 1) (by omega) (l5.mono hbw) (.below l5) B35 (by omega) (by omega) ⟨_, _, _, rfl⟩ ⟨_, _, _, rfl⟩ ⟨_, _, _, rfl⟩
    have HFIN := Lib.hid hfin
    clear hr he0 hfin y4
    go_wp2_with (first | (refine wpList_val (o := ⟨some 53, Op.load 130 _, _, _, _, _⟩) rfl (Instr.loadAt 130 _) rfl _ (rn_load B85) ?_) | (refine wpList_unit (o := ⟨none, Op.store 130 (.tmp 6) _, _, _, _, _⟩) rfl rfl (Instr.storeAt 130 _ _) rfl (blk_store (c' := rnC (.slice a1 s.acts.length a3) (.slice n1 n2 n3) (.slice v1 v2 v3) (s.steps + 1 : Nat) e ((i : Int) + 1)) B35 size130 rfl rfl) ?_) | fail)
    exact ⟨rfl, _, res109 (setRow_heap w5 (w.heap.size + 1 + 1) _ (rnC (.slice a1 s.acts.length a3) (.slice n1 n2 n3) (.slice v1 v2 v3) (s.steps + 1 : Nat) e ((i : Int) + 1)) 130 B35) rfl rfl rfl, HFIN.out⟩
  | ok l =>
  have hcs : cs1 = rnC (.slice a1 s.acts.length a3) (.slice n1 n2 n3) (.slice v1 v2 v3) (s.steps + 1 : Nat) 0 0 := HCS1.out
  subst hcs
  have hrow : IRow w5 w4.heap.size _ l := hev5
  have y8 : w5.cell? ⟨R8, 4, none⟩ = some (.int .i64 0) := (B85.cell 4).trans rfl
  obtain ⟨ka, kc, hform⟩ := (nrow_of hrow).form
  rw [hform] at hrow ⊢
  have hll : l.length = xs.length := evAll_len HER.out.symm
  obtain ⟨hxl, _⟩ := exprs_get HXS.out
  obtain ⟨m, rfl⟩ : ∃ m, l = [m] := by
    match l, (show l.length = 1 by have := HLT.out; omega) with
    | [m], _ => exact ⟨m, rfl⟩
  obtain ⟨Lr, or, rfl, hcm⟩ := nrow_get (nrow_of hrow) (i := 0) (by simp)
  rw [Nat.add_zero] at hcm
  have hcm' : w5.cell? ⟨Lr, or, none⟩ = some (.int .i64 m) := hcm
  rw [show ([m] : List Int).length = 1 from rfl]
  have hr : res = .ok ⟨upd s.vars nm m, s.steps + 1, s.acts⟩ := by rw [HRES.out, kl, runS_let h17 HER.out.symm]; rfl
  have CX5 := cell_below CX4 b45
  have hLr : w4.heap.size ≤ Lr := (hrow.lt Lr rfl).1
  have V5 := VV4.out.below b45
  have HSET := Lib.hid (fun W' (hW' : Stays (fun k => k = w.heap.size + 1 + 1) w5 W') => rset_any (w := W') (b := w0.heap.size) (A := .slice a1 s.acts.length a3) ⟨_, _, _, rfl⟩ (V5.stays B35 (by decide) (by decide) hW') (Nat.le_trans S5.base hW'.size) (by have := h17; omega) ((s.steps + 1 : Nat) : Int) 0 0 x m)
  have HR := Lib.hid hr
  have HS5 := Lib.hid S5
  have HX := Lib.hid HXN.out
  have hcl1 : 1 < st.length + 1 := by rw [HSTX.out]; simp
  have hi64 : I64 ((i : Int) + 1) := ⟨by omega, by omega⟩
  clear hr S5 HER hll hxl hform hev5 hrow
  go_upto_region 11 with fail
  obtain ⟨Good, hGood⟩ : ∃ G : World → Prop, G = GoodX (w.heap.size + 1 + 1) w0.heap.size (.slice a1 s.acts.length a3) (s.steps + 1 : Nat) (upd s.vars (txt x) m) (s.steps + 1) := ⟨_, rfl⟩
  have hgb : ∀ w w', Good w → Below w.heap.size w w' → Good w' := by rw [hGood]; exact fun w w' h b => h.below b
  go_cut [7] (fun x7 wx => x7 = .int .i64 ((i : Int) + 1) ∧ GoodX (w.heap.size + 1 + 1) w0.heap.size (.slice a1 s.acts.length a3) (s.steps + 1 : Nat) (upd s.vars (txt x) m) (s.steps + 1) wx ∧ Stays (fun k => k = w.heap.size + 1 + 1) w5 wx)
  case first =>
    rename_i J7 K7 hJ7 hK7
    obtain ⟨ks, hks⟩ : ∃ ks : List (KpR (RhoD (w.heap.size + 1 + 1) Good)), ks = [.is (rnV (.slice a1 s.acts.length a3) (.slice n1 n2 n3) (.slice v1 v2 v3) (s.steps + 1 : Nat) 0 0), .is (.slice (some ⟨gl, ol, none⟩) (st.length + 1) cl), .is (.pointer (some ⟨gl, ol + 1, none⟩)), .is (.string x), .is (.slice (some ⟨Lr, or, none⟩) 1 kc), .is (.pointer (some ⟨Lr, or + 0, none⟩)), .is (.int .i64 m), KX (w.heap.size + 1 + 1) Good w0.heap.size (.slice a1 s.acts.length a3) (s.steps + 1 : Nat) (upd s.vars (txt x) m) (s.steps + 1), .is (.int .i64 (i : Int)), .is (.int .i64 ((i : Int) + 1)), KG (w.heap.size + 1 + 1) Good, .is (.int .i64 ((i : Int) + 1))] := ⟨_, rfl⟩
    refine region_open ?_
    intro ops hops a0 ha0
    have hfine : fineOps2 ops a0.tmps.size = true := by rw [hops, ha0]; kernel_rfl
    have nd10 : noDst ops 10 = true := by rw [hops]; kernel_rfl
    have e10 : a0.eval (.tmp 10) = .pointer (some ⟨R8, 0, none⟩) := by rw [ha0]; rfl
    have nd8 : noDst ops 8 = true := by rw [hops]; kernel_rfl
    have e8 : a0.eval (.tmp 8) = .slice (some ⟨gl, ol, none⟩) (st.length + 1) cl := by rw [ha0]; rfl
    have nd11 : noDst ops 11 = true := by rw [hops]; kernel_rfl
    have e11 : a0.eval (.tmp 11) = .slice (some ⟨Lr, or, none⟩) 1 kc := by rw [ha0]; rfl
    have nd2 : noDst ops 2 = true := by rw [hops]; kernel_rfl
    have e2 : a0.eval (.tmp 2) = .int .i64 (i : Int) := by rw [ha0]; rfl
    have nd6 : noDst ops 6 = true := by rw [hops]; kernel_rfl
    have e6 : a0.eval (.tmp 6) = .pointer (some ⟨w.heap.size + 1 + 1, 0, none⟩) := by rw [ha0]; rfl
    have h0 : OpAt ops 0 (.load 130 (.tmp 10)) (some 59) [] := by rw [hops]; exact ⟨_, rfl, rfl, rfl, depsOk_spec (by kernel_rfl)⟩
    have h1 : OpAt ops 1 (.move (.tmp 8)) (some 60) [] := by rw [hops]; exact ⟨_, rfl, rfl, rfl, depsOk_spec (by kernel_rfl)⟩
    have h2 : OpAt ops 2 (.indexAddr 27 (.tmp 60) (.const (.int .i64 1))) (some 61) [1] := by rw [hops]; exact ⟨_, rfl, rfl, rfl, depsOk_spec (by kernel_rfl)⟩
    have h3 : OpAt ops 3 (.load 9 (.tmp 61)) (some 62) [2] := by rw [hops]; exact ⟨_, rfl, rfl, rfl, depsOk_spec (by kernel_rfl)⟩
    have h4 : OpAt ops 4 (.move (.tmp 11)) (some 63) [] := by rw [hops]; exact ⟨_, rfl, rfl, rfl, depsOk_spec (by kernel_rfl)⟩
    have h5 : OpAt ops 5 (.indexAddr 22 (.tmp 63) (.const (.int .i64 0))) (some 64) [4] := by rw [hops]; exact ⟨_, rfl, rfl, rfl, depsOk_spec (by kernel_rfl)⟩
    have h6 : OpAt ops 6 (.load 3 (.tmp 64)) (some 65) [5] := by rw [hops]; exact ⟨_, rfl, rfl, rfl, depsOk_spec (by kernel_rfl)⟩
    have h7 : OpAt ops 7 (.call { callee := .value (.func 134), args := #[.tmp 59, .tmp 62, .tmp 65], argTypes := #[130, 9, 3] }) (some 66) [0, 3, 6] := by rw [hops]; exact ⟨_, rfl, rfl, rfl, depsOk_spec (by kernel_rfl)⟩
    have h8 : OpAt ops 8 (.move (.tmp 2)) (some 67) [] := by rw [hops]; exact ⟨_, rfl, rfl, rfl, depsOk_spec (by kernel_rfl)⟩
    have h9 : OpAt ops 9 (.binOp .add 3 (.tmp 67) (.const (.int .i64 1)) 3) (some 68) [8] := by rw [hops]; exact ⟨_, rfl, rfl, rfl, depsOk_spec (by kernel_rfl)⟩
    have h10 : OpAt ops 10 (.store 130 (.tmp 6) (.tmp 66)) none [7] := by rw [hops]; exact ⟨_, rfl, rfl, rfl, depsOk_spec (by kernel_rfl)⟩
    have h11 : OpAt ops 11 (.assign (.tmp 68)) (some 7) [9] := by rw [hops]; exact ⟨_, rfl, rfl, rfl, depsOk_spec (by kernel_rfl)⟩
    have hsize : ops.size = 12 := by rw [hops]; rfl
    have hfix : ∀ (i : Nat) (u : Value), ks[i]? = some (.is u) → ∀ v w', GR ks i v w' → v = u := fun i u hi v w' h => by
      have h' : (ks.getD i KpR.any).p v w' := h
      rw [List.getD_eq_getElem?_getD, hi] at h'
      exact h'
    have put : ∀ (i : Nat) (u : Value), ks[i]? = some (.is u) → ∀ w', GR ks i u w' := fun i u hi w' => by
      show (ks.getD i KpR.any).p u w'
      rw [List.getD_eq_getElem?_getD, hi]
      rfl
    have gk : ∀ (i : Nat) (u : KpR (RhoD (w.heap.size + 1 + 1) Good)), ks[i]? = some u → GR ks i = u.p := fun i u hi => by
      show (ks.getD i KpR.any).p = u.p
      rw [List.getD_eq_getElem?_getD, hi]
      rfl
    have k0 : ks[0]? = some (.is (rnV (.slice a1 s.acts.length a3) (.slice n1 n2 n3) (.slice v1 v2 v3) (s.steps + 1 : Nat) 0 0)) := by rw [hks]; rfl
    have k1 : ks[1]? = some (.is (.slice (some ⟨gl, ol, none⟩) (st.length + 1) cl)) := by rw [hks]; rfl
    have k2 : ks[2]? = some (.is (.pointer (some ⟨gl, ol + 1, none⟩))) := by rw [hks]; rfl
    have k3 : ks[3]? = some (.is (.string x)) := by rw [hks]; rfl
    have k4 : ks[4]? = some (.is (.slice (some ⟨Lr, or, none⟩) 1 kc)) := by rw [hks]; rfl
    have k5 : ks[5]? = some (.is (.pointer (some ⟨Lr, or + 0, none⟩))) := by rw [hks]; rfl
    have k6 : ks[6]? = some (.is (.int .i64 m)) := by rw [hks]; rfl
    have k7 : ks[7]? = some (KX (w.heap.size + 1 + 1) Good w0.heap.size (.slice a1 s.acts.length a3) (s.steps + 1 : Nat) (upd s.vars (txt x) m) (s.steps + 1)) := by rw [hks]; rfl
    have k8 : ks[8]? = some (.is (.int .i64 (i : Int))) := by rw [hks]; rfl
    have k9 : ks[9]? = some (.is (.int .i64 ((i : Int) + 1))) := by rw [hks]; rfl
    have k10 : ks[10]? = some (KG (w.heap.size + 1 + 1) Good) := by rw [hks]; rfl
    have k11 : ks[11]? = some (.is (.int .i64 ((i : Int) + 1))) := by rw [hks]; rfl
    have q0 : ∀ Q, OkR (RhoD (w.heap.size + 1 + 1) Good) Tryz.prog ops Q (GR ks) a0 w5 0 := fun Q => okR_val h0 (fun ρ => Instr.loadAt 130 (ρ (.tmp 10))) (fun ρ o ho => by unfold execOp; rw [ho]) fun a w' hc => by
      rw [hc.out 10 nd10, e10]
      exact ⟨_, w', rn_load (B85.stays hc.below.1 (by omega)), put 0 _ k0 _, RhoD.refl _⟩
    have q1 : ∀ Q, OkR (RhoD (w.heap.size + 1 + 1) Good) Tryz.prog ops Q (GR ks) a0 w5 1 := fun Q => okR_move RhoD.refl h1 (.inl rfl) fun a w' hc => by rw [hc.out 8 nd8, e8]; exact put 1 _ k1 _
    have q2 : ∀ Q, OkR (RhoD (w.heap.size + 1 + 1) Good) Tryz.prog ops Q (GR ks) a0 w5 2 := fun Q => okR_val h2 (fun ρ => Instr.indexAt 27 (ρ (.tmp 60)) (ρ (.const (.int .i64 1)))) (fun ρ o ho => by unfold execOp; rw [ho]) fun a w' hc => by
      rw [hfix 1 _ k1 _ _ (hc.get (by simp) h1), eval_const]
      exact ⟨_, w', idx27 (k := 1) hcl1 w', put 2 _ k2 _, RhoD.refl _⟩
    have q3 : ∀ Q, OkR (RhoD (w.heap.size + 1 + 1) Good) Tryz.prog ops Q (GR ks) a0 w5 3 := fun Q => okR_val h3 (fun ρ => Instr.loadAt 9 (ρ (.tmp 61))) (fun ρ o ho => by unfold execOp; rw [ho]) fun a w' hc => by
      rw [hfix 2 _ k2 _ _ (hc.get (by simp) h2)]
      exact ⟨_, w', ld9 _ _ _ _ (stays_cell hc.below.1 CX5 (by show gl ≠ _; omega)), put 3 _ k3 _, RhoD.refl _⟩
    have q4 : ∀ Q, OkR (RhoD (w.heap.size + 1 + 1) Good) Tryz.prog ops Q (GR ks) a0 w5 4 := fun Q => okR_move RhoD.refl h4 (.inl rfl) fun a w' hc => by rw [hc.out 11 nd11, e11]; exact put 4 _ k4 _
    have q5 : ∀ Q, OkR (RhoD (w.heap.size + 1 + 1) Good) Tryz.prog ops Q (GR ks) a0 w5 5 := fun Q => okR_val h5 (fun ρ => Instr.indexAt 22 (ρ (.tmp 63)) (ρ (.const (.int .i64 0)))) (fun ρ o ho => by unfold execOp; rw [ho]) fun a w' hc => by
      rw [hfix 4 _ k4 _ _ (hc.get (by simp) h4), eval_const]
      exact ⟨_, w', idx22 (k := 0) (by omega) w', put 5 _ k5 _, RhoD.refl _⟩
    have q6 : ∀ Q, OkR (RhoD (w.heap.size + 1 + 1) Good) Tryz.prog ops Q (GR ks) a0 w5 6 := fun Q => okR_val h6 (fun ρ => Instr.loadAt 3 (ρ (.tmp 64))) (fun ρ o ho => by unfold execOp; rw [ho]) fun a w' hc => by
      rw [hfix 5 _ k5 _ _ (hc.get (by simp) h5)]
      exact ⟨_, w', ld3 _ _ _ _ (stays_cell hc.below.1 hcm' (by show Lr ≠ _; omega)), put 6 _ k6 _, RhoD.refl _⟩
    have q7 : ∀ Q, OkR (RhoD (w.heap.size + 1 + 1) Good) Tryz.prog ops Q (GR ks) a0 w5 7 := fun Q => okR_call h7 fun o a w' ho hc => ⟨_, ent3 (enters_of Tryz.func134 (by kernel_rfl) rfl) _ _ _ _ a o w' ho, by
      rw [hfix 0 _ k0 _ _ (hc.get (by simp) h0), hfix 3 _ k3 _ _ (hc.get (by simp) h3), hfix 6 _ k6 _ _ (hc.get (by simp) h6), gk 7 _ k7]
      exact (HSET.out w' hc.below.1).mono fun e w'' h => set_keep (hc.below.2.1 ⟨_, B35, rfl⟩) hgb h⟩
    have q8 : ∀ Q, OkR (RhoD (w.heap.size + 1 + 1) Good) Tryz.prog ops Q (GR ks) a0 w5 8 := fun Q => okR_move RhoD.refl h8 (.inl rfl) fun a w' hc => by rw [hc.out 2 nd2, e2]; exact put 8 _ k8 _
    have q9 : ∀ Q, OkR (RhoD (w.heap.size + 1 + 1) Good) Tryz.prog ops Q (GR ks) a0 w5 9 := fun Q => okR_val h9 (fun ρ => do eqGuard .add 3 (.tmp 67) (.const (.int .i64 1)) (ρ (.tmp 67)) (ρ (.const (.int .i64 1))); binOp .add 3 (ρ (.tmp 67)) (ρ (.const (.int .i64 1)))) (fun ρ o ho => by unfold execOp; rw [ho]) fun a w' hc => by
      rw [hfix 8 _ k8 _ _ (hc.get (by simp) h8), eval_const]
      exact ⟨_, w', add_run (i : Int) 1 (.tmp 67) (.const (.int .i64 1)) w' hi64, put 9 _ k9 _, RhoD.refl _⟩
    have q10 : ∀ Q, OkR (RhoD (w.heap.size + 1 + 1) Good) Tryz.prog ops Q (GR ks) a0 w5 10 := fun Q => okR_store h10 fun a w' hc => by
      have g := hc.get (by simp) h7
      rw [gk 7 _ k7] at g
      obtain ⟨⟨cs, hb, hs⟩, N', V', g1, g2, g3, g4⟩ := g
      rw [hc.out 6 nd6, e6, g1, gk 10 _ k10]
      obtain ⟨⟨nn1, nn2, nn3, rfl⟩, ⟨vv1, vv2, vv3, rfl⟩⟩ := And.intro g2 g3
      have hgd : Good (w'.setRow (w.heap.size + 1 + 1) (rnC (.slice a1 s.acts.length a3) (.slice nn1 nn2 nn3) (.slice vv1 vv2 vv3) (s.steps + 1 : Nat) 0 0)) := by rw [hGood]; exact ⟨_, _, ⟨_, _, _, rfl⟩, ⟨_, _, _, rfl⟩, setRow_heap w' (w.heap.size + 1 + 1) _ _ 130 hb, g4.stays hb (by decide) (by decide) (setRow_stays w' (w.heap.size + 1 + 1) _)⟩
      exact ⟨_, blk_store (c' := rnC (.slice a1 s.acts.length a3) (.slice nn1 nn2 nn3) (.slice vv1 vv2 vv3) (s.steps + 1 : Nat) 0 0) hb size130 hs rfl, fun _ => hgd, RhoD.store _ hb rfl hgd⟩
    have q11 : ∀ Q, OkR (RhoD (w.heap.size + 1 + 1) Good) Tryz.prog ops Q (GR ks) a0 w5 11 := fun Q => okR_move RhoD.refl h11 (.inr rfl) fun a w' hc => by rw [hfix 9 _ k9 _ _ (hc.get (by simp) h9)]; exact put 11 _ k11 _
    refine wp_region_rho (RhoD (w.heap.size + 1 + 1) Good) RhoD.trans (RhoD.drew _ (fun g => hgb _ _ g (Below.refl _ _).drew)) follows_mixed hfine (GR ks) (GR.stable ks) ?_ ?_
    · intro i o ho
      have hi : i < 12 := by rw [← hsize]; exact (Array.getElem?_eq_some_iff.1 ho).1
      match i, hi with
      | 0, _ => exact q0 _ o ho
      | 1, _ => exact q1 _ o ho
      | 2, _ => exact q2 _ o ho
      | 3, _ => exact q3 _ o ho
      | 4, _ => exact q4 _ o ho
      | 5, _ => exact q5 _ o ho
      | 6, _ => exact q6 _ o ho
      | 7, _ => exact q7 _ o ho
      | 8, _ => exact q8 _ o ho
      | 9, _ => exact q9 _ o ho
      | 10, _ => exact q10 _ o ho
      | 11, _ => exact q11 _ o ho
      | n + 12, h => exact absurd h (by omega)
    · intro vals wq hrho hsaid
      rw [hsize] at hsaid
      have g10 : Good wq := by have g := hsaid 10 (by decide); rw [gk 10 _ k10] at g; exact g
      have v11 : vals 11 = .int .i64 ((i : Int) + 1) := hfix 11 _ k11 _ _ (hsaid 11 (by decide))
      rw [hGood] at g10
      have HG10 := Lib.hid (And.intro v11 (And.intro g10 hrho.1))
      rw [hsize]
      simp only [laid, h0.dst, h1.dst, h2.dst, h3.dst, h4.dst, h5.dst, h6.dst, h7.dst, h8.dst, h9.dst, h10.dst, h11.dst, ha0, Act.put, Nat.reduceLT, decide_true, decide_false, if_true, if_false, Bool.false_eq_true, ne_eq, not_true_eq_false, not_false_eq_true, Nat.reduceEqDiff]
      simp only [List.setIfInBounds_toArray, List.set_cons_succ, List.set_cons_zero]
      change K7 _ _
      refine hK7 _ _ (Met.intro (hJ7 _ _ ?_))
      (repeat apply Exists.intro)
      refine ⟨?rel, rfl⟩
      exact HG10.out
  obtain ⟨rfl, ⟨N', V', ⟨nn1, nn2, nn3, rfl⟩, ⟨vv1, vv2, vv3, rfl⟩, BD, hv⟩, hst6⟩ := hcut
  have S6 : RnSt wc w0.heap.size (.slice a1 s.acts.length a3) (.slice nn1 nn2 nn3) (.slice vv1 vv2 vv3) ⟨upd s.vars nm m, s.steps + 1, s.acts⟩ := ⟨HS5.out.acts.stays B35 (by decide) (by decide) hst6, by rw [← HX.out]; exact hv, h17, HS5.out.alen, Nat.le_trans HS5.out.base hst6.size⟩
  have l6 : Below w.heap.size w wc := l5.trans (hst6.below l5.size (fun j hj e => by have e' : j = w.heap.size + 1 + 1 := e; omega))
  have hfin : RetOne w0.heap.size w res (i + 1) (.returned (.tuple #[rnV (.slice a1 s.acts.length a3) (.slice nn1 nn2 nn3) (.slice vv1 vv2 vv3) (s.steps + 1 : Nat) 0 0, .int .i64 ((i + 1 : Nat) : Int)])) wc := by
    rw [HR.out]
    exact ⟨l6.mono hbw, KeptA.below l6, _, _, _, rfl, S6⟩
  have HFIN := Lib.hid hfin
  clear hfin S6 hv
  go_wp2_with fail
  exact ⟨rfl, _, res109 BD rfl rfl rfl, HFIN.out⟩
end Go.Proofs.YtddnmocoaahlfaaGreatDoor
