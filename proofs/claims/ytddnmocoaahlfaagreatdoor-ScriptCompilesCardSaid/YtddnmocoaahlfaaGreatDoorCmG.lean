/-
  The reference's Run.one at an act. Conditions: the tables lie in memory; the line stands for a statement.
-/
import Derived.Test.YtddnmocoaahlfaaGreatDoorY35
set_option linter.unusedVariables false
set_option linter.unusedSimpArgs false
namespace Go.Proofs.YtddnmocoaahlfaaGreatDoor
open Go.RowKit Go.Shelf
set_option maxRecDepth 100000 in
set_option maxHeartbeats 16000000 in
theorem one_act {w0 : World} {W E L : Value} {T : Tabs} {n i : Nat} {k nm : List UInt8} {t : List (List UInt8)} {xs : List Ex} (k1 : k ≠ sLet) (k2 : k ≠ sFor) (k3 : k ≠ sIf) (hpg0 : Pg w0 W E L T n) (hi : i < n) (hT : T.W i = k :: t) (hp : partsL k t = some (nm, xs)) : OneC w0 W E L i (i + 1) (.mk (i + 1) k nm xs [] []) := by
  intro w A N V s hb0 hs
  have hpg := hpg0.below hb0
  obtain ⟨hn, ⟨g, c, rfl, hw⟩, ⟨g2, c2, rfl, he⟩, ⟨g3, c3, rfl, hl⟩⟩ := hpg
  obtain ⟨hnc, G, lv, rfl, hcell, ss, hsr, htx, hssl, hssz⟩ := hw i hi
  rw [hT] at htx
  obtain ⟨s0, st, rfl⟩ : ∃ s0 st, ss = s0 :: st := by
    cases ss with
    | nil => cases htx
    | cons a b => exact ⟨a, b, rfl⟩
  simp only [List.map_cons, List.cons.injEq] at htx
  obtain ⟨hk0, hst0⟩ := htx
  obtain ⟨gl, ol, cl, rfl, hcl, hc0, A1, hsl, htl⟩ := srw_tail hsr
  simp only [List.length_cons] at hssl
  have hAs := hs.acts.slc
  obtain ⟨hNs, hVs⟩ := hs.vars.slcs
  have hstep := fun W' => rstep_any W' hAs hNs hVs (st := s.steps) hs.steps 0 0 ((i : Int) + 1)
  obtain ⟨a1, a3, rfl, _⟩ := acts_form hs.acts
  clear hAs
  obtain ⟨n1, n2, n3, rfl⟩ := hNs
  obtain ⟨v1, v2, v3, rfl⟩ := hVs
  obtain ⟨res, hres⟩ : ∃ res, res = runS (.mk (i + 1) k nm xs [] []) s := ⟨_, rfl⟩
  rw [← hres]
  obtain ⟨w2, hw2, l2, B1, B2, B3, z2⟩ := one_pre w (rnC (.slice a1 s.acts.length a3) (.slice n1 n2 n3) (.slice v1 v2 v3) s.steps 0 0) #[.slice (some ⟨G, 0, none⟩) n c, .slice g2 n c2, .slice g3 n c3]
  have hbw := hs.base
  have hs2 := hs.below l2
  have p0 : w2.cell? ⟨w.heap.size + 1, 0, none⟩ = some (.slice (some ⟨G, 0, none⟩) n c) := (B2.cell 0).trans rfl
  have hcell2 := cell_below hcell l2
  have hz1 : w.heap.size + 1 < w2.heap.size := by omega
  have hz0 : w.heap.size < w2.heap.size := by omega
  have HW := Lib.hid hw2
  have HSTEP := Lib.hid (hstep w2)
  have HRES := Lib.hid hres
  have HS2 := Lib.hid hs2
  have HB1 := Lib.hid B1
  have HB2 := Lib.hid B2
  have HB3 := Lib.hid B3
  have HSR := Lib.hid (hsr.below l2)
  have HTL := Lib.hid (htl.below l2)
  have HTLW := Lib.hid htl
  have HSRW := Lib.hid hsr
  have HCW := Lib.hid hc0
  have HSL := Lib.hid hsl
  have HC0 := Lib.hid (cell_below hc0 l2)
  have HK := Lib.hid hk0
  have HST := Lib.hid hst0
  have HSZ := Lib.hid hssz
  have HE := Lib.hid he
  have HL := Lib.hid hl
  have HL2 := Lib.hid l2
  have HP := Lib.hid hp
  have HB0 := Lib.hid hb0
  have H16 := Lib.hid hs.steps
  clear hw2 hstep hres hs2 B1 B2 B3 hsr htl hsl hc0 hk0 hst0 hssz he hl hs l2 hp hpg0 hw hcell hT hb0
  have hi9 : (i : Int) + 1 ≤ 65537 := by omega
  go_enter Tryz.func109, Tryz.ntmps109
  go_upto_region 1 with fail
  rw [← HW.out]
  go_wp2_with (first | (refine wpList_val (o := ⟨some 24, Op.load 130 _, _, _, _, _⟩) rfl (Instr.loadAt 130 _) rfl _ (rn_load HB1.out) ?_) | fail)
  refine HSTEP.out.mono ?_
  rintro ex w3 ⟨b3, rfl⟩
  have l3 := HL2.out.trans (b3.mono HL2.out.size)
  have B13 := HB1.out.below b3
  have B23 := HB2.out.below b3
  have B33 := HB3.out.below b3
  have S3 := HS2.out.below b3
  have T3 := HTL.out.below b3
  have R3 := HSR.out.below b3
  have C3 := cell_below HC0.out b3
  have hz3 := b3.size
  by_cases h16 : s.steps = 16384
  · rw [if_pos h16]
    have hr : res = .error (5, i + 1) := by rw [HRES.out, runS_stop h16]
    have B14 := setRow_heap w3 w.heap.size _ (rnC (.slice a1 s.acts.length a3) (.slice n1 n2 n3) (.slice v1 v2 v3) s.steps 5 ((i : Int) + 1)) 130 B13
    have s4 := setRow_stays w3 w.heap.size (rnC (.slice a1 s.acts.length a3) (.slice n1 n2 n3) (.slice v1 v2 v3) s.steps 5 ((i : Int) + 1))
    have B34 := B33.stays s4 (by omega)
    obtain ⟨w4, hw4⟩ : ∃ w4, w4 = w3.setRow w.heap.size (rnC (.slice a1 s.acts.length a3) (.slice n1 n2 n3) (.slice v1 v2 v3) s.steps 5 ((i : Int) + 1)) := ⟨_, rfl⟩
    have l4 : Below w.heap.size w w4 := by rw [hw4]; exact l3.trans (s4.below l3.size (fun j hj e => by have e' : j = w.heap.size := e; omega))
    have hst4 := blk_store (c' := rnC (.slice a1 s.acts.length a3) (.slice n1 n2 n3) (.slice v1 v2 v3) s.steps 5 ((i : Int) + 1)) B13 size130 rfl rfl
    rw [← hw4] at B14 B34 hst4
    have y4 : w4.cell? ⟨w.heap.size, 4, none⟩ = some (.int .i64 5) := (B14.cell 4).trans rfl
    have HST4 := Lib.hid hst4
    have hfin : RetOne w0.heap.size w res (i + 1) (.returned (.tuple #[rnV (.slice a1 s.acts.length a3) (.slice n1 n2 n3) (.slice v1 v2 v3) s.steps 5 ((i : Int) + 1), .int .i64 (i : Int)])) (w4.setRow (w.heap.size + 1 + 1) (rnC (.slice a1 s.acts.length a3) (.slice n1 n2 n3) (.slice v1 v2 v3) s.steps 5 ((i : Int) + 1))) := by
      rw [hr]
      exact one_end (line := i + 1) (by omega) (l4.mono hbw) (.below l4) B34 (by omega) (by decide) ⟨_, _, _, rfl⟩ ⟨_, _, _, rfl⟩ ⟨_, _, _, rfl⟩
    have HFIN := Lib.hid hfin
    clear hst4 hw4 s4 S3 T3 R3 C3 hr h16 hfin p0 hcell2
    go_wp2_with (first | (refine wpList_unit (o := ⟨none, Op.store 130 (.tmp 3) _, _, _, _, _⟩) rfl rfl (Instr.storeAt 130 _ _) rfl HST4.out ?_) | (refine wpList_val (o := ⟨some 30, Op.load 130 _, _, _, _, _⟩) rfl (Instr.loadAt 130 _) rfl _ (rn_load B14) ?_) | (refine wpList_unit (o := ⟨none, Op.store 130 (.tmp 6) _, _, _, _, _⟩) rfl rfl (Instr.storeAt 130 _ _) rfl (blk_store (c' := rnC (.slice a1 s.acts.length a3) (.slice n1 n2 n3) (.slice v1 v2 v3) s.steps 5 ((i : Int) + 1)) B34 size130 rfl rfl) ?_) | fail)
    exact ⟨rfl, _, res109 (setRow_heap w4 (w.heap.size + 1 + 1) _ (rnC (.slice a1 s.acts.length a3) (.slice n1 n2 n3) (.slice v1 v2 v3) s.steps 5 ((i : Int) + 1)) 130 B34) rfl rfl rfl, HFIN.out⟩
  rw [if_neg h16]
  have h17 : s.steps + 1 ≤ 16384 := by have := H16.out; omega
  have B14 := setRow_heap w3 w.heap.size _ (rnC (.slice a1 s.acts.length a3) (.slice n1 n2 n3) (.slice v1 v2 v3) (s.steps + 1 : Nat) 0 0) 130 B13
  have s4 := setRow_stays w3 w.heap.size (rnC (.slice a1 s.acts.length a3) (.slice n1 n2 n3) (.slice v1 v2 v3) (s.steps + 1 : Nat) 0 0)
  have B24 := B23.stays s4 (by omega)
  have B34 := B33.stays s4 (by omega)
  have S4r := S3.stays B13 (by decide) s4
  obtain ⟨w4, hw4⟩ : ∃ w4, w4 = w3.setRow w.heap.size (rnC (.slice a1 s.acts.length a3) (.slice n1 n2 n3) (.slice v1 v2 v3) (s.steps + 1 : Nat) 0 0) := ⟨_, rfl⟩
  have hglw : gl < w.heap.size + 0 + 1 ∨ True := .inr trivial
  have hglt : gl < w.heap.size := World.block_lt_of_cell? w _ HCW.out
  have srest : ∀ {v : Value} {l : List ByteArray}, SRw w v l → SRw w4 v l := fun h => by
    rw [hw4]
    exact srw_stays ((h.below HL2.out).below b3) s4 (fun L' o' m' c' e h0 e' => by have e' : L' = w.heap.size := e'; have := srw_lo h e h0; omega)
  have l4 : Below w.heap.size w w4 := by rw [hw4]; exact l3.trans (s4.below l3.size (fun j hj e => by have e' : j = w.heap.size := e; omega))
  have hst4 := blk_store (c' := rnC (.slice a1 s.acts.length a3) (.slice n1 n2 n3) (.slice v1 v2 v3) (s.steps + 1 : Nat) 0 0) B13 size130 rfl rfl
  rw [← hw4] at B14 B24 B34 hst4 S4r
  have S4 : RnSt w4 w0.heap.size (.slice a1 s.acts.length a3) (.slice n1 n2 n3) (.slice v1 v2 v3) ⟨s.vars, s.steps + 1, s.acts⟩ := ⟨S4r.acts, S4r.vars.more (Nat.le_succ _), h17, S4r.alen, S4r.base⟩
  have T4 := srest HTLW.out
  have R4 := srest HSRW.out
  have C4 : w4.cell? ⟨gl, ol, none⟩ = some (.string s0) := cell_below HCW.out l4
  have y4 : w4.cell? ⟨w.heap.size, 4, none⟩ = some (.int .i64 0) := (B14.cell 4).trans rfl
  have HST4 := Lib.hid hst4
  have HW4 := Lib.hid hw4
  have hz4 := l4.size
  have hz4' : w.heap.size + 1 + 1 < w4.heap.size := B34.lt
  clear hst4 hw4 s4 S3 T3 R3 C3 h16 S4r srest p0 hcell2 B13 B23 B33 hz3 l3 b3
  have f1 : (s0.toList == [108, 101, 116]) = false := (lit_str s0 sLet).trans (decide_eq_false (by rw [HK.out]; exact k1))
  have f2 : (s0.toList == [102, 111, 114]) = false := (lit_str s0 sFor).trans (decide_eq_false (by rw [HK.out]; exact k2))
  have f3 : (s0.toList == [105, 102]) = false := (lit_str s0 sIf).trans (decide_eq_false (by rw [HK.out]; exact k3))
  obtain ⟨hxs, hk17, htk⟩ := parts_act k1 k2 k3 HP.out
  obtain ⟨er0, her0⟩ : ∃ er0, er0 = evalAll s.vars xs := ⟨_, rfl⟩
  obtain ⟨cs1, hcs1⟩ : ∃ cs1, cs1 = EvCs (.slice a1 s.acts.length a3) (.slice n1 n2 n3) (.slice v1 v2 v3) (s.steps + 1 : Nat) ((i : Int) + 1) er0 := ⟨_, rfl⟩
  have hcs2 : cs1.size = 6 ∧ cs1.toList.all (·.oneCell') = true := by rw [hcs1]; unfold EvCs; cases er0 <;> exact ⟨rfl, rfl⟩
  have HCS := Lib.hid hcs2
  have HCS1 := Lib.hid hcs1
  have HER := Lib.hid her0
  have hcall : ∀ W', Below w4.heap.size w4 W' → Calls Tryz.prog 133 #[rnV (.slice a1 s.acts.length a3) (.slice n1 n2 n3) (.slice v1 v2 v3) (s.steps + 1 : Nat) 0 0, .slice (some A1) st.length (cl - 1), .int .i64 ((i : Int) + 1)] W' (fun x w' => Below W'.heap.size W' w' ∧ ∃ u, x = .returned u ∧ (KEv er0 w4.heap.size cs1).p u w') := fun W' hW' => by
    obtain ⟨ns, vs, hN, hV, hlen, hsc, _, hm⟩ := S4.vars
    have hns : SRw W' (.slice n1 n2 n3) ns := (srow_of (own_below hN hW')).rw
    have hvs : NRow W' (.slice v1 v2 v3) vs := nrow_of (own_below hV hW')
    have hev := reval_any (A := .slice a1 s.acts.length a3) (w := W') (ws := st) (xs := xs) ⟨_, _, _, rfl⟩ hns hvs (by simp only at hm; omega) (by simp only at hm; omega) (T4.below hW') (by have := hssl; simp at this ⊢; omega) (fun y hy => HSZ.out y (by simp at hy ⊢; simp [hy])) (by rw [HST.out]; exact hxs) ((s.steps + 1 : Nat) : Int) 0 0 ((i : Int) + 1)
    rw [hsc, ← her0] at hev
    exact hev.mono fun x w' h => ev_keep hW'.size hcs1 h
  have HC := Lib.hid hcall
  clear hcall hcs1 her0 hcs2
  go_upto_region 21 with (first | (refine wpList_unit (o := ⟨none, Op.store 130 (.tmp 3) _, _, _, _, _⟩) rfl rfl (Instr.storeAt 130 _ _) rfl HST4.out ?_) | fail)
  go_cut [13, 14] (fun vd vv wx => ∃ R8, vd = .pointer (some ⟨R8, 0, none⟩) ∧ w4.heap.size ≤ R8 ∧ Blk wx R8 cs1 130 ∧ EvVal er0 w4.heap.size vv wx ∧ Below w4.heap.size w4 wx)
  case first =>
    obtain ⟨ks, hks⟩ : ∃ ks : List Kp, ks = [.is (rnV (.slice a1 s.acts.length a3) (.slice n1 n2 n3) (.slice v1 v2 v3) (s.steps + 1 : Nat) 0 0), .is (.slice (some ⟨gl, ol, none⟩) (st.length + 1) cl), .is (.slice (some A1) st.length (cl - 1)), .is (.int .i64 ((i : Int) + 1)), KEv er0 w4.heap.size cs1, KEv er0 w4.heap.size cs1, .is (.agg cs1), KVl er0 w4.heap.size, KRb w4] := ⟨_, rfl⟩
    refine region_open ?_
    intro ops hops a0 ha0
    have hfine : fineOps2 ops a0.tmps.size = true := by rw [hops, ha0]; kernel_rfl
    have htail : tailOps2 ops 9 7 = true := by rw [hops]; kernel_rfl
    have nd3 : noDst ops 3 = true := by rw [hops]; kernel_rfl
    have nd8 : noDst ops 8 = true := by rw [hops]; kernel_rfl
    have nd9 : noDst ops 9 = true := by rw [hops]; kernel_rfl
    have e3 : a0.eval (.tmp 3) = .pointer (some ⟨w.heap.size, 0, none⟩) := by rw [ha0]; rfl
    have e8 : a0.eval (.tmp 8) = .slice (some ⟨gl, ol, none⟩) (st.length + 1) cl := by rw [ha0]; rfl
    have e9x : a0.eval (.tmp 9) = .int .i64 ((i : Int) + 1) := by rw [ha0]; rfl
    have h0 : OpIs ops 0 (.load 130 (.tmp 3)) 115 [] := by rw [hops]; exact ⟨_, rfl, rfl, rfl, depsOk_spec (by kernel_rfl)⟩
    have h1 : OpIs ops 1 (.move (.tmp 8)) 116 [] := by rw [hops]; exact ⟨_, rfl, rfl, rfl, depsOk_spec (by kernel_rfl)⟩
    have h2 : OpIs ops 2 (.slice 27 (.tmp 116) (some (.const (.int .i64 1))) none none) 117 [1] := by rw [hops]; exact ⟨_, rfl, rfl, rfl, depsOk_spec (by kernel_rfl)⟩
    have h3 : OpIs ops 3 (.move (.tmp 9)) 118 [] := by rw [hops]; exact ⟨_, rfl, rfl, rfl, depsOk_spec (by kernel_rfl)⟩
    have h4 : OpIs ops 4 (.call { callee := .value (.func 133), args := #[.tmp 115, .tmp 117, .tmp 118], argTypes := #[130, 27, 3] }) 119 [0, 2, 3] := by rw [hops]; exact ⟨_, rfl, rfl, rfl, depsOk_spec (by kernel_rfl)⟩
    have h5 : OpIs ops 5 (.move (.tmp 119)) 114 [4] := by rw [hops]; exact ⟨_, rfl, rfl, rfl, depsOk_spec (by kernel_rfl)⟩
    have h6 : OpIs ops 6 (.extract (.tmp 114) 0) 120 [5] := by rw [hops]; exact ⟨_, rfl, rfl, rfl, depsOk_spec (by kernel_rfl)⟩
    have h7 : OpIs ops 7 (.extract (.tmp 114) 1) 121 [5] := by rw [hops]; exact ⟨_, rfl, rfl, rfl, depsOk_spec (by kernel_rfl)⟩
    have h8 : OpIs ops 8 (.alloc 130) 13 [] := by rw [hops]; exact ⟨_, rfl, rfl, rfl, depsOk_spec (by kernel_rfl)⟩
    have hsize : ops.size = 11 := by rw [hops]; rfl
    refine wp_region_mdt2 9 7 follows_mixed hfine htail (GK ks) (GK.stable ks) ?_ ?_ ?_
    · have hfix : ∀ (i : Nat) (u : Value), ks[i]? = some (.is u) → ∀ v w', GK ks i v w' → v = u := fun i u hi v w' h => by
        have h' : (ks.getD i Kp.any).p v w' := h
        rw [List.getD_eq_getElem?_getD, hi] at h'
        exact h'
      have put : ∀ (i : Nat) (u : Value), ks[i]? = some (.is u) → ∀ w', GK ks i u w' := fun i u hi w' => by
        show (ks.getD i Kp.any).p u w'
        rw [List.getD_eq_getElem?_getD, hi]
        rfl
      have gk : ∀ (i : Nat) (u : Kp), ks[i]? = some u → GK ks i = u.p := fun i u hi => by
        show (ks.getD i Kp.any).p = u.p
        rw [List.getD_eq_getElem?_getD, hi]
        rfl
      have k0 : ks[0]? = some (.is (rnV (.slice a1 s.acts.length a3) (.slice n1 n2 n3) (.slice v1 v2 v3) (s.steps + 1 : Nat) 0 0)) := by rw [hks]; rfl
      have k1 : ks[1]? = some (.is (.slice (some ⟨gl, ol, none⟩) (st.length + 1) cl)) := by rw [hks]; rfl
      have k2 : ks[2]? = some (.is (.slice (some A1) st.length (cl - 1))) := by rw [hks]; rfl
      have k3 : ks[3]? = some (.is (.int .i64 ((i : Int) + 1))) := by rw [hks]; rfl
      have k4 : ks[4]? = some (KEv er0 w4.heap.size cs1) := by rw [hks]; rfl
      have k5 : ks[5]? = some (KEv er0 w4.heap.size cs1) := by rw [hks]; rfl
      have k6 : ks[6]? = some (.is (.agg cs1)) := by rw [hks]; rfl
      have k7 : ks[7]? = some (KVl er0 w4.heap.size) := by rw [hks]; rfl
      have k8 : ks[8]? = some (KRb w4) := by rw [hks]; rfl
      have q0 : ∀ Q, OkG Tryz.prog ops Q (GK ks) a0 w4 0 := fun Q => okG_val h0 (fun ρ => Instr.loadAt 130 (ρ (.tmp 3))) (fun ρ o ho => by unfold execOp; rw [ho]) fun a w' hc => by
        rw [hc.out 3 nd3, e3]
        exact ⟨_, w', rn_load (B14.below hc.below), put 0 _ k0 _, Below.refl _ _⟩
      have q1 : ∀ Q, OkG Tryz.prog ops Q (GK ks) a0 w4 1 := fun Q => okG_move h1 (.inl rfl) fun a w' hc => by rw [hc.out 8 nd8, e8]; exact put 1 _ k1 _
      have q2 : ∀ Q, OkG Tryz.prog ops Q (GK ks) a0 w4 2 := fun Q => okG_val h2 (fun ρ => Instr.sliceAt 27 (ρ (.tmp 116)) (some (ρ (.const (.int .i64 1)))) none none) (fun ρ o ho => by unfold execOp; rw [ho]; rfl) fun a w' hc => by
        rw [hfix 1 _ k1 _ _ (hc.get (by simp) h1), eval_const]
        exact ⟨_, w', HSL.out w', put 2 _ k2 _, Below.refl _ _⟩
      have q3 : ∀ Q, OkG Tryz.prog ops Q (GK ks) a0 w4 3 := fun Q => okG_move h3 (.inl rfl) fun a w' hc => by rw [hc.out 9 nd9, e9x]; exact put 3 _ k3 _
      have q4 : ∀ Q, OkG Tryz.prog ops Q (GK ks) a0 w4 4 := fun Q => okG_call h4 fun o a w' ho hc => ⟨_, ent3 (enters_of Tryz.func133 (by kernel_rfl) rfl) _ _ _ _ a o w' ho, by
        rw [hfix 0 _ k0 _ _ (hc.get (by simp) h0), hfix 2 _ k2 _ _ (hc.get (by simp) h2), hfix 3 _ k3 _ _ (hc.get (by simp) h3), gk 4 _ k4]
        exact HC.out w' hc.below⟩
      have q5 : ∀ Q, OkG Tryz.prog ops Q (GK ks) a0 w4 5 := fun Q => okG_move h5 (.inl rfl) fun a w' hc => by
        have := hc.get (by simp) h4
        rw [gk 4 _ k4] at this
        rw [gk 5 _ k5]; exact this
      have q6 : ∀ Q, OkG Tryz.prog ops Q (GK ks) a0 w4 6 := fun Q => okG_val h6 (fun ρ => Instr.extract (ρ (.tmp 114)) 0) (fun ρ o ho => by unfold execOp; rw [ho]) fun a w' hc => by
        have := hc.get (by simp) h5
        rw [gk 5 _ k5] at this
        obtain ⟨v, e, h⟩ := this
        rw [e]
        exact ⟨_, w', tup0 _ _ w', put 6 _ k6 _, Below.refl _ _⟩
      have q7 : ∀ Q, OkG Tryz.prog ops Q (GK ks) a0 w4 7 := fun Q => okG_val h7 (fun ρ => Instr.extract (ρ (.tmp 114)) 1) (fun ρ o ho => by unfold execOp; rw [ho]) fun a w' hc => by
        have := hc.get (by simp) h5
        rw [gk 5 _ k5] at this
        obtain ⟨v, e, h⟩ := this
        rw [e, gk 7 _ k7]
        exact ⟨_, w', tup1 _ _ w', h, Below.refl _ _⟩
      have q8 : ∀ Q, OkG Tryz.prog ops Q (GK ks) a0 w4 8 := fun Q => okG_val h8 (fun ρ => Instr.alloc 130 true (.tuple #[])) (fun ρ o ho => by unfold execOp; rw [ho]) fun a w' hc => by
        rw [gk 8 _ k8]
        exact ⟨_, _, zero130 w', ⟨w'.heap.size, rfl, Blk.new w' _ _, hc.below.size⟩, (Below.refl _ _).alloc (Nat.le_refl _) _⟩
      intro i o hi ho
      match i, hi with
      | 0, _ => exact q0 _ o ho
      | 1, _ => exact q1 _ o ho
      | 2, _ => exact q2 _ o ho
      | 3, _ => exact q3 _ o ho
      | 4, _ => exact q4 _ o ho
      | 5, _ => exact q5 _ o ho
      | 6, _ => exact q6 _ o ho
      | 7, _ => exact q7 _ o ho
      | 8, _ => exact q8 _ o ho
      | n + 9, h => exact absurd h (by omega)
    · intro vals w5 b5 hsaid
      have ev6 : vals 6 = .agg cs1 := by have g := hsaid 6 (by decide); rw [hks] at g; exact g
      obtain ⟨R8, ev8, B8, hR8⟩ : (KRb w4).p (vals 8) w5 := by have g := hsaid 8 (by decide); rw [hks] at g; exact g
      have hv5 : (KVl er0 w4.heap.size).p (vals 7) w5 := by have g := hsaid 7 (by decide); rw [hks] at g; exact g
      obtain ⟨v5, ev7⟩ : ∃ v5, vals 7 = v5 := ⟨_, rfl⟩
      rw [ev7] at hv5
      have hv5' : EvVal er0 w4.heap.size v5 w5 := hv5
      rw [hsize]
      simp only [laid, h0.dst, h1.dst, h2.dst, h3.dst, h4.dst, h5.dst, h6.dst, h7.dst, h8.dst, ha0, Act.put, Nat.reduceLT, decide_true, decide_false, if_true, if_false, Bool.false_eq_true, Bool.and_true, Bool.and_false, Bool.false_and, Bool.true_and, ne_eq, not_true_eq_false, not_false_eq_true, Nat.reduceEqDiff]
      simp only [List.setIfInBounds_toArray, List.set_cons_succ, List.set_cons_zero]
      rw [ev6, ev7, ev8, hops]
      change wpList _ _ _ [_, _] _ _
      have s5 := setRow_stays w5 R8 cs1
      have b6 : Below w4.heap.size w4 (w5.setRow R8 cs1) := b5.trans (s5.below b5.size (fun j hj e => by have e' : j = R8 := e; omega))
      have B9 := setRow_heap w5 R8 _ cs1 130 B8
      have hst9 := blk_store (c' := cs1) B8 (by rw [size130, HCS.out.1]) (by rw [HCS.out.1]; rfl) HCS.out.2
      have hv6 := EvVal.store hv5' B8 cs1
      obtain ⟨w6, hw6⟩ : ∃ w6, w6 = w5.setRow R8 cs1 := ⟨_, rfl⟩
      rw [← hw6] at B9 b6 hst9 hv6
      have HST9 := Lib.hid hst9
      have HEND := Lib.hid (show ∃ R8 v5, (Value.pointer (some ⟨R8, 0, none⟩) = .pointer (some ⟨R8, 0, none⟩)) ∧ w4.heap.size ≤ R8 ∧ Blk w6 R8 cs1 130 ∧ EvVal er0 w4.heap.size v5 w6 ∧ Below w4.heap.size w4 w6 from ⟨R8, v5, rfl, hR8, B9, hv6, b6⟩)
      have HB9 := Lib.hid B9
      have HV6 := Lib.hid hv6
      have HB6 := Lib.hid b6
      clear ha0 h0 h1 h2 h3 h4 h5 h6 h7 h8 hfine htail nd3 nd8 nd9 e3 e8 e9x hsaid hks B8 hst9 hw6 s5 b5 B9 b6 hv6 hv5 hv5' HEND
      go_wp2_with (first | (refine wpList_unit (o := ⟨none, Op.store 130 (.tmp 13) _, _, _, _, _⟩) rfl rfl (Instr.storeAt 130 _ _) rfl HST9.out ?_) | fail)
      go_meet
      exact ⟨R8, rfl, hR8, HB9.out, HV6.out, HB6.out⟩
    · intro vals w5 b5 hsaid
      have ev6 : vals 6 = .agg cs1 := by have g := hsaid 6 (by decide) (by decide); rw [hks] at g; exact g
      obtain ⟨R8, ev8, B8, hR8⟩ : (KRb w4).p (vals 8) w5 := by have g := hsaid 8 (by decide) (by decide); rw [hks] at g; exact g
      obtain ⟨v5, ev5, hv5⟩ : (KEv er0 w4.heap.size cs1).p (vals 5) w5 := by have g := hsaid 5 (by decide) (by decide); rw [hks] at g; exact g
      obtain ⟨o9, e9⟩ : ∃ o, ops[9]? = some o := ⟨ops[9]'(by rw [hsize]; decide), Array.getElem?_eq_getElem _⟩
      obtain ⟨o7, e7⟩ : ∃ o, ops[7]? = some o := ⟨ops[7]'(by rw [hsize]; decide), Array.getElem?_eq_getElem _⟩
      obtain ⟨o10, e10⟩ : ∃ o, ops[10]? = some o := ⟨ops[10]'(by rw [hsize]; decide), Array.getElem?_eq_getElem _⟩
      refine ⟨o9, [o7, o10], e9, by rw [hsize]; rfl, fun j => ?_, ?_⟩
      · rw [hsize]
        match j with
        | 0 => exact e7.symm
        | 1 => exact e10.symm
        | n + 2 => rfl
      rw [hops] at e7 e9 e10
      change some _ = some _ at e7
      change some _ = some _ at e9
      change some _ = some _ at e10
      injection e7 with e7
      injection e9 with e9
      injection e10 with e10
      subst e7 e9 e10
      have hv5' : EvVal er0 w4.heap.size v5 w5 := hv5
      rw [hsize]
      simp only [laid, h0.dst, h1.dst, h2.dst, h3.dst, h4.dst, h5.dst, h6.dst, h7.dst, h8.dst, ha0, Act.put, Nat.reduceLT, decide_true, decide_false, if_true, if_false, Bool.false_eq_true, Bool.and_true, Bool.and_false, Bool.false_and, Bool.true_and, ne_eq, not_true_eq_false, not_false_eq_true, Nat.reduceEqDiff]
      simp only [List.setIfInBounds_toArray, List.set_cons_succ, List.set_cons_zero]
      rw [ev6, ev5, ev8, hops]
      have s5 := setRow_stays w5 R8 cs1
      have b6 : Below w4.heap.size w4 (w5.setRow R8 cs1) := b5.trans (s5.below b5.size (fun j hj e => by have e' : j = R8 := e; omega))
      have B9 := setRow_heap w5 R8 _ cs1 130 B8
      have hst9 := blk_store (c' := cs1) B8 (by rw [size130, HCS.out.1]) (by rw [HCS.out.1]; rfl) HCS.out.2
      have hv6 := EvVal.store hv5' B8 cs1
      obtain ⟨w6, hw6⟩ : ∃ w6, w6 = w5.setRow R8 cs1 := ⟨_, rfl⟩
      rw [← hw6] at B9 b6 hst9 hv6
      have HST9 := Lib.hid hst9
      have HEND := Lib.hid (show ∃ R8 v5, (Value.pointer (some ⟨R8, 0, none⟩) = .pointer (some ⟨R8, 0, none⟩)) ∧ w4.heap.size ≤ R8 ∧ Blk w6 R8 cs1 130 ∧ EvVal er0 w4.heap.size v5 w6 ∧ Below w4.heap.size w4 w6 from ⟨R8, v5, rfl, hR8, B9, hv6, b6⟩)
      have HB9 := Lib.hid B9
      have HV6 := Lib.hid hv6
      have HB6 := Lib.hid b6
      clear ha0 h0 h1 h2 h3 h4 h5 h6 h7 h8 hfine htail nd3 nd8 nd9 e3 e8 e9x hsaid hks B8 hst9 hw6 s5 b5 B9 b6 hv6 hv5 hv5' HEND
      go_wp2_with (first | (refine wpList_unit (o := ⟨none, Op.store 130 (.tmp 13) _, _, _, _, _⟩) rfl rfl (Instr.storeAt 130 _ _) rfl HST9.out ?_) | fail)
      go_meet
      exact ⟨R8, rfl, hR8, HB9.out, HV6.out, HB6.out⟩
  case rest =>
  obtain ⟨R8, rfl, hR8, B85, hev5, b45⟩ := hcut
  obtain ⟨w5, hw5⟩ : ∃ w5, w5 = wc := ⟨_, rfl⟩
  rw [← hw5] at B85 hev5 b45 ⊢
  clear hw5
  have l5 := l4.trans (b45.mono l4.size)
  have B15 := B14.below b45
  have B25 := B24.below b45
  have B35 := B34.below b45
  have S5 := S4.below b45
  have R5 := R4.below b45
  have C5 := cell_below C4 b45
  have hz5 := b45.size
  clear B14 B24 B34 S4 R4 C4 HC T4
  cases er0 with
  | error e =>
    have hcs : cs1 = rnC (.slice a1 s.acts.length a3) (.slice n1 n2 n3) (.slice v1 v2 v3) (s.steps + 1 : Nat) e ((i : Int) + 1) := HCS1.out
    subst hcs
    have hr : res = .error (e, i + 1) := by rw [HRES.out, runS_everr h17 HER.out.symm]
    have he0 := evAll_err HER.out.symm
    have d : (e != 0) = true := by simp; omega
    have y8 : w5.cell? ⟨R8, 4, none⟩ = some (.int .i64 e) := (B85.cell 4).trans rfl
    have hfin : RetOne w0.heap.size w res (i + 1) (.returned (.tuple #[rnV (.slice a1 s.acts.length a3) (.slice n1 n2 n3) (.slice v1 v2 v3) (s.steps + 1 : Nat) e ((i : Int) + 1), .int .i64 (i : Int)])) (w5.setRow (w.heap.size + 1 + 1) (rnC (.slice a1 s.acts.length a3) (.slice n1 n2 n3) (.slice v1 v2 v3) (s.steps + 1 : Nat) e ((i : Int) + 1))) := by
      rw [hr]
      exact one_end (line := i + 1) (by omega) (l5.mono hbw) (.below l5) B35 (by omega) (by omega) ⟨_, _, _, rfl⟩ ⟨_, _, _, rfl⟩ ⟨_, _, _, rfl⟩
    have HFIN := Lib.hid hfin
    clear hr he0 hfin y4
    go_wp2_with (first | (refine wpList_val (o := ⟨some 125, Op.load 130 _, _, _, _, _⟩) rfl (Instr.loadAt 130 _) rfl _ (rn_load B85) ?_) | (refine wpList_unit (o := ⟨none, Op.store 130 (.tmp 6) _, _, _, _, _⟩) rfl rfl (Instr.storeAt 130 _ _) rfl (blk_store (c' := rnC (.slice a1 s.acts.length a3) (.slice n1 n2 n3) (.slice v1 v2 v3) (s.steps + 1 : Nat) e ((i : Int) + 1)) B35 size130 rfl rfl) ?_) | fail)
    exact ⟨rfl, _, res109 (setRow_heap w5 (w.heap.size + 1 + 1) _ (rnC (.slice a1 s.acts.length a3) (.slice n1 n2 n3) (.slice v1 v2 v3) (s.steps + 1 : Nat) e ((i : Int) + 1)) 130 B35) rfl rfl rfl, HFIN.out⟩
  | ok l =>
  have hcs : cs1 = rnC (.slice a1 s.acts.length a3) (.slice n1 n2 n3) (.slice v1 v2 v3) (s.steps + 1 : Nat) 0 0 := HCS1.out
  subst hcs
  have hrow : IRow w5 w4.heap.size _ l := hev5
  have y8 : w5.cell? ⟨R8, 4, none⟩ = some (.int .i64 0) := (B85.cell 4).trans rfl
  obtain ⟨ka, kc, hform⟩ := (nrow_of hrow).form
  rw [hform] at hrow ⊢
  have hll : l.length = xs.length := evAll_len HER.out.symm
  obtain ⟨hxl, _⟩ := exprs_get hxs
  have hstl : t.length = st.length := by rw [← HST.out, List.length_map]
  -- the execution is put back
  have B16 := setRow_heap w5 w.heap.size _ (rnC (.slice a1 s.acts.length a3) (.slice n1 n2 n3) (.slice v1 v2 v3) (s.steps + 1 : Nat) 0 0) 130 B15
  have s6 := setRow_stays w5 w.heap.size (rnC (.slice a1 s.acts.length a3) (.slice n1 n2 n3) (.slice v1 v2 v3) (s.steps + 1 : Nat) 0 0)
  have B36 := B35.stays s6 (by omega)
  have S6 := S5.stays B15 (by decide) s6
  have hrow6 : IRow _ w4.heap.size _ l := own_stays hrow B15 (by decide) s6
  have hst6 := blk_store (c' := rnC (.slice a1 s.acts.length a3) (.slice n1 n2 n3) (.slice v1 v2 v3) (s.steps + 1 : Nat) 0 0) B15 size130 rfl rfl
  obtain ⟨w6, hw6⟩ : ∃ w6, w6 = w5.setRow w.heap.size (rnC (.slice a1 s.acts.length a3) (.slice n1 n2 n3) (.slice v1 v2 v3) (s.steps + 1 : Nat) 0 0) := ⟨_, rfl⟩
  have l6 : Below w.heap.size w w6 := by rw [hw6]; exact l5.trans (s6.below l5.size (fun j hj e => by have e' : j = w.heap.size := e; omega))
  have C6 : w6.cell? ⟨gl, ol, none⟩ = some (.string s0) := cell_below HCW.out l6
  rw [← hw6] at B16 B36 S6 hrow6 hst6
  have hz6 : w5.heap.size ≤ w6.heap.size := by rw [hw6]; exact s6.size
  have HST6 := Lib.hid hst6
  clear hst6 hw6 s6 S5 hrow C5 R5
  obtain ⟨y0, y1, y2, y3, y4', y5⟩ := rn_cells B16
  by_cases h4096 : s.acts.length = 4096
  · have d4 : ((s.acts.length : Int) == 4096) = true := by simp [h4096]
    have hr : res = .error (5, i + 1) := by rw [HRES.out, runS_act h17 HER.out.symm k1 k2 k3, if_pos h4096]
    have HF := Lib.hid (rfail_any w6 (A := .slice a1 s.acts.length a3) (N := .slice n1 n2 n3) (V := .slice v1 v2 v3) ⟨_, _, _, rfl⟩ ⟨_, _, _, rfl⟩ ⟨_, _, _, rfl⟩ (s.steps + 1 : Nat) 0 0 5 ((i : Int) + 1))
    have HR := Lib.hid hr
    clear hr h4096 HER hrow6 S6
    go_wp2_with (first | (refine wpList_val (o := ⟨some 127, Op.load 130 _, _, _, _, _⟩) rfl (Instr.loadAt 130 _) rfl _ (rn_load B85) ?_) | (refine wpList_unit (o := ⟨none, Op.store 130 (.tmp 3) _, _, _, _, _⟩) rfl rfl (Instr.storeAt 130 _ _) rfl HST6.out ?_) | (refine wpList_val (o := ⟨some 182, Op.load 130 _, _, _, _, _⟩) rfl (Instr.loadAt 130 _) rfl _ (rn_load B16) ?_) | fail)
    refine HF.out.mono ?_
    rintro ex w7 ⟨b7, rfl⟩
    have l7 := l6.trans (b7.mono l6.size)
    have B37 := B36.below b7
    have hfin : RetOne w0.heap.size w res (i + 1) (.returned (.tuple #[rnV (.slice a1 s.acts.length a3) (.slice n1 n2 n3) (.slice v1 v2 v3) (s.steps + 1 : Nat) 5 ((i : Int) + 1), .int .i64 (i : Int)])) (w7.setRow (w.heap.size + 1 + 1) (rnC (.slice a1 s.acts.length a3) (.slice n1 n2 n3) (.slice v1 v2 v3) (s.steps + 1 : Nat) 5 ((i : Int) + 1))) := by
      rw [HR.out]
      exact one_end (line := i + 1) (by omega) (l7.mono hbw) (.below l7) B37 (by omega) (by decide) ⟨_, _, _, rfl⟩ ⟨_, _, _, rfl⟩ ⟨_, _, _, rfl⟩
    have HFIN := Lib.hid hfin
    clear hfin y0 y1 y2 y3 y4' y5
    go_wp2_with (first | (refine wpList_unit (o := ⟨none, Op.store 130 (.tmp 6) _, _, _, _, _⟩) rfl rfl (Instr.storeAt 130 _ _) rfl (blk_store (c' := rnC (.slice a1 s.acts.length a3) (.slice n1 n2 n3) (.slice v1 v2 v3) (s.steps + 1 : Nat) 5 ((i : Int) + 1)) B37 size130 rfl rfl) ?_) | fail)
    exact ⟨rfl, _, res109 (setRow_heap w7 (w.heap.size + 1 + 1) _ (rnC (.slice a1 s.acts.length a3) (.slice n1 n2 n3) (.slice v1 v2 v3) (s.steps + 1 : Nat) 5 ((i : Int) + 1)) 130 B37) rfl rfl rfl, HFIN.out⟩
  have d4 : ((s.acts.length : Int) == 4096) = false := by simp; omega
  have hr : res = .ok ⟨s.vars, s.steps + 1, s.acts ++ [makeActL (actOfL k) l]⟩ := by rw [HRES.out, runS_act h17 HER.out.symm k1 k2 k3, if_neg h4096]
  obtain ⟨i24, hi24, hq0, hq1, hq2⟩ := info_parts info24
  have hka17 := actOf_le2 k
  have htR : takesR (actOfL k) l.length = true := by rw [takes_eq hk17 hka17, hll, hxl]; exact htk
  obtain ⟨kk, hkk0⟩ : ∃ kk : Nat, kk = actOfL k := ⟨_, rfl⟩
  rw [← hkk0] at hka17 htR hr
  have hll3 : l.length ≤ 131072 := by rw [hll, hxl, hstl]; omega
  have HKIND := Lib.hid (show ∀ W, Calls Tryz.prog 70 #[.string s0] W (RetV W (.int .i64 (kk : Nat))) from fun W => by rw [hkk0, ← HK.out]; exact kindR_any s0 W)
  have HR := Lib.hid hr
  have HROW6 := Lib.hid hrow6
  have HS6 := Lib.hid S6
  have HTR := Lib.hid htR
  have h4095 : s.acts.length < 4096 := by have := S6.alen; simp only at this; omega
  clear hr h4096 HER hrow6 S6 htR htk hk17 hkk0 hev5 hform hll hxl hstl y0 y1 y2 y3 y5
  have y0 : w6.cell? ⟨w.heap.size, 0, none⟩ = some (.slice a1 s.acts.length a3) := (B16.cell 0).trans rfl
  go_wp2_with (first | (refine wpList_val (o := ⟨some 127, Op.load 130 _, _, _, _, _⟩) rfl (Instr.loadAt 130 _) rfl _ (rn_load B85) ?_) | (refine wpList_unit (o := ⟨none, Op.store 130 (.tmp 3) _, _, _, _, _⟩) rfl rfl (Instr.storeAt 130 _ _) rfl HST6.out ?_) | fail)
  refine (HKIND.out w6).mono ?_
  rintro ex w7 ⟨rfl, b7⟩
  have HOF := Lib.hid (ofR_any hka17 (nrow_of (own_below HROW6.out b7)) hll3)
  clear HKIND y0
  go_wp2_with fail
  (with_reducible refine HOF.out.mono ?_)
  rintro ex w8 ⟨b8, k', e0, e1, e2, e3, e4, kv, kp, rfl, hkn, ⟨⟨p3, m3, c3', rfl⟩, hkk⟩, htk'⟩
  obtain ⟨hk', hmk⟩ := htk' HTR.out
  subst hk'
  have b68 := b7.trans (b8.mono b7.size)
  have hrow8 := own_below HROW6.out b68
  have hkrow := keep_row hrow8 hkn hkk hmk
  obtain ⟨w9, hw9⟩ : ∃ w9, w9 = w8.alloc (.cells #[.int .i64 (kk), .int .i64 e0, .int .i64 e1, .int .i64 e2, .int .i64 e3, .int .i64 e4, .slice p3 m3 c3'] 24) := ⟨_, rfl⟩
  have b89 : Below w8.heap.size w8 w9 := by rw [hw9]; exact (Below.refl _ _).alloc (Nat.le_refl _) _
  have B9 : Blk w9 w8.heap.size #[.int .i64 (kk), .int .i64 e0, .int .i64 e1, .int .i64 e2, .int .i64 e3, .int .i64 e4, .slice p3 m3 c3'] 24 := by rw [hw9]; exact Blk.new w8 _ _
  have b69 := b68.trans (b89.mono b68.size)
  have B19 := B16.below b69
  have B39 := B36.below b69
  have S9 := HS6.out.below b69
  have hkrow9 := own_below hkrow b89
  obtain ⟨kvs, hown9, hkeep9⟩ := S9.acts
  have l9 := l6.trans (b69.mono l6.size)
  have y0 : w9.cell? ⟨w.heap.size, 0, none⟩ = some (.slice a1 s.acts.length a3) := (B19.cell 0).trans rfl
  obtain ⟨t0, t1, t2, t3, t4, t5, t6⟩ := acts_cells B9
  have HW9 := Lib.hid hw9
  have HOWN9 := Lib.hid hown9
  have HS9 := Lib.hid S9
  have HKEEP9 := Lib.hid hkeep9
  have HKR9 := Lib.hid (row_base hkrow9 (show w0.heap.size ≤ w4.heap.size by have := l4.size; omega))
  have HMK := Lib.hid hmk
  have hb9 : w0.heap.size ≤ w9.heap.size := S9.base
  have hR9 : w.heap.size < w9.heap.size := B19.lt
  have h89 : w8.heap.size < w9.heap.size := B9.lt
  clear hw9 hown9 S9 hkeep9 hkrow9 hkrow hrow8 hkk hkn htk' HOF hmk b68 b89 b7 b8 HROW6 HS6
  go_upto_region 34 with fail
  rw [← HW9.out]
  go_upto_region 35 with (first | (at_builtin; refine wpList_append_lies (o := ⟨some 199, _, _, _, _, _⟩) _ rfl _ _ 56 rfl w0.heap.size 24 i24 (.agg #[.int .i64 0, .int .i64 0, .int .i64 0, .int .i64 0, .int .i64 0, .int .i64 0, .slice none 0 0]) 7 72 Tryz.underlying56 hi24 hq0 hq1 hq2 rfl (by decide) _ _ _ rfl (HOWN9.out.alloc _) ⟨w9.heap.size, 0, none⟩ 1 1 [.int .i64 (kk), .int .i64 e0, .int .i64 e1, .int .i64 e2, .int .i64 e3, .int .i64 e4, .slice p3 m3 c3'] rfl rfl (World.news_of_block (heap_alloc_new w9 _)) (by simp [Value.oneCell']) (by decide) (by unfold maxLen; omega) (by omega) (by simp; omega) _ rfl ?_; intro g10 cap10 w10 hown10 hgr hat hlt10; obtain ⟨bp, kp10, ap⟩ := acts_push2 (a := ⟨kk, [e0, e1, e2, e3, e4], kp⟩) hb9 HOWN9.out HKEEP9.out HKR9.out rfl hgr hown10; have B110 := kp10.blk B19 (by decide); have q0 : w10.cell? ⟨w.heap.size, 0, none⟩ = some (.slice a1 s.acts.length a3) := (B110.cell 0).trans rfl; have qf := B110.frozen 0) | fail)
  have B310 := kp10.blk B39 (by decide)
  have V10 := HS9.out.vars.kept kp10
  have l10 : Below w0.heap.size w w10 := (l9.mono hbw).trans bp
  have k10 : KeptA w w10 := (KeptA.below l9).trans kp10
  obtain ⟨w11, hw11⟩ : ∃ w11, w11 = w10.setCell ⟨w.heap.size, 0, none⟩ (.slice (some ⟨g10, 0, none⟩) (s.acts.length + 1) cap10) := ⟨_, rfl⟩
  rw [← hw11]
  have s11 : Stays (fun k => k = w.heap.size) w10 w11 := by rw [hw11]; exact Stays.cell (.refl _ w10) 0 _
  have B111 : Blk w11 w.heap.size (rnC (.slice (some ⟨g10, 0, none⟩) (s.acts.length + 1) cap10) (.slice n1 n2 n3) (.slice v1 v2 v3) (s.steps + 1 : Nat) 0 0) 130 := by rw [hw11]; exact B110.set 0 _
  have B311 := B310.stays s11 (by omega)
  have S11 : RnSt w11 w0.heap.size (.slice (some ⟨g10, 0, none⟩) (s.acts.length + 1) cap10) (.slice n1 n2 n3) (.slice v1 v2 v3) ⟨s.vars, s.steps + 1, s.acts ++ [makeActL (kk) l]⟩ :=
    ⟨by rw [HMK.out]; exact ap.stays B110 (by decide) (by decide) s11, V10.stays B110 (by decide) (by decide) s11, h17, by simp; omega, by have := l10.size; have := s11.size; omega⟩
  have l11 := l10.trans (s11.below (by have := l10.size; omega) (fun j hj e => by have e' : j = w.heap.size := e; omega))
  have k11 : KeptA w w11 := fun kk cur T z hT hk => by
    rw [s11.block kk (by have := (Array.getElem?_eq_some_iff.1 hk).1; have := B110.lt; omega) (fun e => by have e' : kk = w.heap.size := e; have := (Array.getElem?_eq_some_iff.1 hk).1; omega)]
    exact k10 kk cur T z hT hk
  have hfin := one_fin (next := i + 1) (by omega) l11 k11 B311 (by omega) S11
  rw [← HR.out] at hfin
  have HFIN := Lib.hid hfin
  clear hfin S11 l11 k11 l10 k10 V10 hw11 s11 hown10 hgr hat hlt10 bp kp10 ap q0 qf B110 B310 y0 t0 t1 t2 t3 t4 t5 t6
  go_wp2_with (first | (refine wpList_val (o := ⟨some 201, Op.load 130 _, _, _, _, _⟩) rfl (Instr.loadAt 130 _) rfl _ (rn_load B111) ?_) | (refine wpList_unit (o := ⟨none, Op.store 130 (.tmp 6) _, _, _, _, _⟩) rfl rfl (Instr.storeAt 130 _ _) rfl (blk_store (c' := rnC (.slice (some ⟨g10, 0, none⟩) (s.acts.length + 1) cap10) (.slice n1 n2 n3) (.slice v1 v2 v3) (s.steps + 1 : Nat) 0 0) B311 size130 rfl rfl) ?_) | fail)
  exact ⟨rfl, _, res109 (setRow_heap w11 (w.heap.size + 1 + 1) _ (rnC (.slice (some ⟨g10, 0, none⟩) (s.acts.length + 1) cap10) (.slice n1 n2 n3) (.slice v1 v2 v3) (s.steps + 1 : Nat) 0 0) 130 B311) rfl rfl rfl, HFIN.out⟩
end Go.Proofs.YtddnmocoaahlfaaGreatDoor
