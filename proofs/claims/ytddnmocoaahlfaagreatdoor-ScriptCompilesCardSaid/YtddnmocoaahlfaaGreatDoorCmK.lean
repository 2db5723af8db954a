/-
  The reference's Run.span: from the contract of each line to that of a range of lines. Condition: the tables lie in memory.
-/
import Derived.Test.YtddnmocoaahlfaaGreatDoorY35
set_option linter.unusedVariables false
set_option linter.unusedSimpArgs false
namespace Go.Proofs.YtddnmocoaahlfaaGreatDoor
open Go.RowKit Go.Shelf
inductive Ones (w0 : World) (W E L : Value) (T : Tabs) : Nat → Nat → List Stm → Prop
  | nil (i : Nat) : Ones w0 W E L T i i []
  | skip {i hi : Nat} {ss : List Stm} (h : T.W i = []) (r : Ones w0 W E L T (i + 1) hi ss) : Ones w0 W E L T i hi ss
  | one {i nx hi : Nat} {t : Stm} {ss : List Stm} (h : T.W i ≠ []) (c : OneC w0 W E L i nx t) (lt : i < nx) (r : Ones w0 W E L T nx hi ss) : Ones w0 W E L T i hi (t :: ss)
theorem Ones.le {w0 : World} {W E L : Value} {T : Tabs} {lo hi : Nat} {ss : List Stm} (h : Ones w0 W E L T lo hi ss) : lo ≤ hi := by
  induction h with
  | nil => exact Nat.le_refl _
  | skip _ _ ih => omega
  | one _ _ lt _ ih => omega
theorem Ones.last {w0 : World} {W E L : Value} {T : Tabs} {i : Nat} {ss : List Stm} (h : Ones w0 W E L T i i ss) : ss = [] := by
  cases h with
  | nil => rfl
  | skip _ r => have := r.le; omega
  | one _ _ lt r => have := r.le; omega
theorem Ones.idle {w0 : World} {W E L : Value} {T : Tabs} {i hi : Nat} {ss : List Stm} (h : Ones w0 W E L T i hi ss) (hl : i < hi) (hw : T.W i = []) : Ones w0 W E L T (i + 1) hi ss := by
  cases h with
  | nil => omega
  | skip _ r => exact r
  | one hn _ _ _ => exact absurd hw hn
theorem Ones.some {w0 : World} {W E L : Value} {T : Tabs} {i hi : Nat} {ss : List Stm} (h : Ones w0 W E L T i hi ss) (hl : i < hi) (hw : T.W i ≠ []) : ∃ nx t ts, ss = t :: ts ∧ OneC w0 W E L i nx t ∧ i < nx ∧ Ones w0 W E L T nx hi ts := by
  cases h with
  | nil => omega
  | skip h _ => exact absurd h hw
  | one _ c lt r => exact ⟨_, _, _, rfl, c, lt, r⟩
def SpAt (w0 : World) (W E L : Value) (T : Tabs) (hi : Nat) (res : Res) (wr : World) (g : Nat) (A N V : Value) (st e ln k : Int) : Prop :=
  (∃ i s ss, k = (i : Nat) ∧ st = s.steps ∧ e = 0 ∧ ln = 0 ∧ Ones w0 W E L T i hi ss ∧ runL ss s = res ∧ RnSt wr w0.heap.size A N V s ∧ g = hi + 1 - i) ∨
  (e ≠ 0 ∧ (∃ line : Nat, ln = line ∧ res = .error (e, line)) ∧ Slc A ∧ Slc N ∧ Slc V ∧ g = 0)
theorem SpAt.forms {w0 : World} {W E L : Value} {T : Tabs} {hi : Nat} {res : Res} {wr : World} {g : Nat} {A N V : Value} {st e ln k : Int} (h : SpAt w0 W E L T hi res wr g A N V st e ln k) : Slc A ∧ Slc N ∧ Slc V := by
  rcases h with ⟨i, s, ss, _, _, _, _, _, _, h, _⟩ | ⟨_, _, h1, h2, h3, _⟩
  · exact ⟨h.acts.slc, h.vars.slcs.1, h.vars.slcs.2⟩
  · exact ⟨h1, h2, h3⟩
theorem pg_load {w : World} {R : Nat} {W E L : Value} (h : Blk w R #[W, E, L] 126) : (Instr.loadAt 126 (.pointer (some ⟨R, 0, none⟩))).run Tryz.prog w = .ok (pgV W E L) w := by
  simp only [Instr.loadAt, Instr.sureAddr, Sem.run_bind, Sem.run_pure, Result.andThen_ok]
  exact run_loadVar_row w R 126 126 _ (0, 0) _ h Tryz.underlying126 rfl (by rw [size126]; rfl)
theorem one_uni {w0 : World} {W E L : Value} {T : Tabs} {hi nx : Nat} {t : Stm} {ts : List Stm} {s : Ran} {w w' : World} {x : Ending} (h : RetOne w0.heap.size w (runS t s) nx x w') (ho : Ones w0 W E L T nx hi ts) :
    Below w0.heap.size w w' ∧ KeptA w w' ∧ ∃ A N V st e ln k g, x = .returned (.tuple #[rnV A N V st e ln, .int .i64 k]) ∧ SpAt w0 W E L T hi (runL (t :: ts) s) w' g A N V st e ln k ∧ g ≤ hi + 1 - nx := by
  obtain ⟨h1, h2, h3⟩ := h
  refine ⟨h1, h2, ?_⟩
  rw [runL]
  cases hr : runS t s with
  | ok s1 =>
    rw [hr] at h3
    obtain ⟨A, N, V, e, h4⟩ := h3
    exact ⟨A, N, V, _, _, _, _, _, e, .inl ⟨nx, s1, ts, rfl, rfl, rfl, rfl, ho, rfl, h4, rfl⟩, Nat.le_refl _⟩
  | error p =>
    obtain ⟨e, line⟩ := p
    rw [hr] at h3
    obtain ⟨he, A, N, V, st, k, a, b, c, e2⟩ := h3
    exact ⟨A, N, V, _, _, _, _, _, e2, .inr ⟨he, ⟨line, rfl, rfl⟩, a, b, c, rfl⟩, Nat.zero_le _⟩
theorem SpAt.move {w0 : World} {W E L : Value} {T : Tabs} {hi : Nat} {res : Res} {wr wr' : World} {g : Nat} {A N V : Value} {st e ln k : Int} (h : SpAt w0 W E L T hi res wr g A N V st e ln k) (H : ∀ s, RnSt wr w0.heap.size A N V s → RnSt wr' w0.heap.size A N V s) : SpAt w0 W E L T hi res wr' g A N V st e ln k := by
  rcases h with ⟨i, s, ss, h1, h2, h3, h4, h5, h6, h7, h8⟩ | h
  · exact .inl ⟨i, s, ss, h1, h2, h3, h4, h5, h6, H _ h7, h8⟩
  · exact .inr h
theorem span_fin {w0 w w8 : World} {W E L : Value} {T : Tabs} {hi : Nat} {res : Res} {g R : Nat} {A N V : Value} {st e ln k : Int} {c0 : Array Value} (hb : w0.heap.size ≤ R) (l8 : Below w0.heap.size w w8) (k8 : KeptA w w8) (BR : Blk w8 R c0 130) (hR : w.heap.size ≤ R) (h : SpAt w0 W E L T hi res w8 g A N V st e ln k) (hend : e ≠ 0 ∨ ¬ k < hi) (hle : ∀ i : Nat, k = i → e = 0 → i ≤ hi) :
    RetRn w0.heap.size w res (.returned (rnV A N V st e ln)) (w8.setRow R (rnC A N V st e ln)) := by
  have sR := setRow_stays w8 R (rnC A N V st e ln)
  have lfin := l8.trans (sR.below (by have := BR.lt; omega) (fun j hj e => by have e' : j = R := e; omega))
  have kfin : KeptA w (w8.setRow R (rnC A N V st e ln)) := fun kk cur T z hT hk => by
    rw [sR.block kk (by have := (Array.getElem?_eq_some_iff.1 hk).1; have := BR.lt; omega) (fun e => by have e' : kk = R := e; have := (Array.getElem?_eq_some_iff.1 hk).1; omega)]
    exact k8 kk cur T z hT hk
  rcases h with ⟨i, s, ss, h1, h2, h3, h4, h5, h6, h7, h8⟩ | ⟨h1, ⟨line, h2, h3⟩, h4, h5, h6, _⟩
  · have hi' : i = hi := by
      have := hle i h1 h3
      rcases hend with h | h
      · exact absurd h3 h
      · omega
    subst hi'
    rw [h5.last, runL] at h6
    subst h6
    subst h2 h3 h4
    exact ⟨lfin, kfin, A, N, V, rfl, h7.stays BR (by decide) sR⟩
  · subst h3
    subst h2
    exact ⟨lfin, kfin, h1, A, N, V, st, h4, h5, h6, rfl⟩
set_option maxRecDepth 100000 in
set_option maxHeartbeats 8000000 in
theorem span_any {w0 : World} {W E L : Value} {T : Tabs} {n lo hi : Nat} {ss : List Stm} (hpg0 : Pg w0 W E L T n) (hhi : hi ≤ n) (ho : Ones w0 W E L T lo hi ss) : SpanC w0 W E L lo hi ss := by
  intro w A N V s hb0 hs
  have hle := ho.le
  have hpg := hpg0
  obtain ⟨hn, ⟨g, c, rfl, hw⟩, ⟨g2, c2, rfl, he⟩, ⟨g3, c3, rfl, hl⟩⟩ := hpg
  obtain ⟨res, hres⟩ : ∃ res, res = runL ss s := ⟨_, rfl⟩
  rw [← hres]
  have hbw := hs.base
  obtain ⟨⟨a1, a2, a3, hA⟩, ⟨n1, n2, n3, hN⟩, ⟨v1, v2, v3, hV⟩⟩ := And.intro hs.acts.slc hs.vars.slcs
  subst hA hN hV
  obtain ⟨w2, hw2, l2, B1, B2, B3, z2⟩ := one_pre w (rnC (.slice a1 a2 a3) (.slice n1 n2 n3) (.slice v1 v2 v3) s.steps 0 0) #[.slice g n c, .slice g2 n c2, .slice g3 n c3]
  have hs2 := hs.below l2
  have HW := Lib.hid hw2
  have HO := Lib.hid ho
  have HRES := Lib.hid hres
  have HS2 := Lib.hid hs2
  have HPG := Lib.hid hpg0
  have HWW := Lib.hid hw
  have HB0 := Lib.hid hb0
  have HB := Lib.hid (And.intro B1 (And.intro B2 B3))
  have HL2 := Lib.hid l2
  clear ho hres hs hs2 hw he hl hpg0 l2 B1 B2 B3 z2 hb0 hw2
  go_enter Tryz.func63, Tryz.ntmps63
  go_upto_region 1 with fail
  rw [← HW.out]
  go_loopg [2] (hi + 1 - lo) (fun g0 t wr => ∃ (A N V : Value) (st e ln k : Int), t = .int .i64 k ∧ SpAt w0 (.slice g n c) (.slice g2 n c2) (.slice g3 n c3) T hi res wr g0 A N V st e ln k ∧ Below w0.heap.size w wr ∧ KeptA w wr ∧ w.heap.size ≤ wr.heap.size ∧ Blk wr w.heap.size (rnC A N V st e ln) 130 ∧ Blk wr (w.heap.size + 1) #[.slice g n c, .slice g2 n c2, .slice g3 n c3] 126 ∧ (∃ cs, Blk wr (w.heap.size + 1 + 1) cs 130 ∧ cs.size = 6))
  case atStart => exact ⟨_, _, _, _, _, _, _, rfl, .inl ⟨lo, s, ss, rfl, rfl, rfl, rfl, HO.out, HRES.out.symm, HS2.out, rfl⟩, HL2.out.mono hbw, .below HL2.out, HL2.out.size, HB.out.1, HB.out.2.1, _, HB.out.2.2, rfl⟩
  case round =>
    obtain ⟨A, N, V, st, e, ln, k, rfl, hsp, lr, kr, hzr, BR, BP, cs8, BD, hs8⟩ := hrel
    obtain ⟨⟨a1, a2, a3, rfl⟩, ⟨n1, n2, n3, rfl⟩, ⟨v1, v2, v3, rfl⟩⟩ := hsp.forms
    have y4 : wr.cell? ⟨w.heap.size, 4, none⟩ = some (.int .i64 e) := (BR.cell 4).trans rfl
    have p0 : wr.cell? ⟨w.heap.size + 1, 0, none⟩ = some (.slice g n c) := (BP.cell 0).trans rfl
    have HSP := Lib.hid hsp
    clear HRES HO HS2 HB HL2 HW
    by_cases hgo : e = 0 ∧ k < hi
    · obtain ⟨rfl, hk⟩ := hgo
      obtain ⟨i, s2, ss2, rfl, hst, _, hln, hones, hrun, hrs, hg⟩ := hsp.resolve_right (fun h => h.1 rfl)
      have hi1 : i < hi := by omega
      obtain ⟨hcap, G, lv, rfl, hcell0, ws, hsr0, hwt, hsl, hsz⟩ := HWW.out i (by omega)
      have hb0r := HB0.out.trans lr
      have hcell := cell_below hcell0 hb0r
      obtain ⟨lp, lc, rfl⟩ := hsr0.form
      have hk' : (i : Int) < (hi : Int) := hk
      have HST := Lib.hid (And.intro hst hln)
      have HONES := Lib.hid hones
      have HRUN := Lib.hid hrun
      have HRS := Lib.hid hrs
      have HG := Lib.hid hg
      have HWT := Lib.hid hwt
      have hin : i < n := by omega
      have hi9 : (i : Int) + 1 ≤ 65537 := by omega
      clear hsp hst hln hones hrun hrs hg hwt hsr0 hsz hcell0 hk
      by_cases h0 : ws = []
      · subst h0
        have hw0 : T.W i = [] := HWT.out.symm
        have HW0 := Lib.hid hw0
        clear hw0
        go_wp2_with fail
        go_roundg (hi + 1 - (i + 1))
        case measure => have := HG.out; omega
        case rel => exact ⟨_, _, _, _, _, _, _, by go_num, .inl ⟨i + 1, s2, ss2, rfl, HST.out.1, rfl, HST.out.2, HONES.out.idle hi1 HW0.out, HRUN.out, HRS.out, rfl⟩, lr, kr, hzr, BR, BP, cs8, BD, hs8⟩
      · have hw0 : T.W i ≠ [] := fun e => by rw [← HWT.out] at e; exact h0 (List.map_eq_nil_iff.1 e)
        obtain ⟨nx, t, ts, ess, hone, hnx, hrest⟩ := HONES.out.some hi1 hw0
        have hlen0 : 0 < ws.length := List.length_pos_iff.2 h0
        have d0 : ((ws.length : Int) == 0) = false := by simp; omega
        have hcall := hone wr (.slice a1 a2 a3) (.slice n1 n2 n3) (.slice v1 v2 v3) s2 hb0r HRS.out
        rw [← HST.out.1] at hcall
        have hln0 := HST.out.2
        subst hln0
        have HC := Lib.hid hcall
        have HREST := Lib.hid hrest
        have hrun2 : runL (t :: ts) s2 = res := by rw [← ess]; exact HRUN.out
        have HRUN2 := Lib.hid hrun2
        clear hw0 hone hrest ess hcall hrun2 h0
        go_upto_region 4 with fail
        go_wp2_with (first | (refine wpList_val (o := ⟨some 29, Op.load 130 _, _, _, _, _⟩) rfl (Instr.loadAt 130 _) rfl _ (rn_load BR) ?_) | (refine wpList_val (o := ⟨some 30, Op.load 126 _, _, _, _, _⟩) rfl (Instr.loadAt 126 _) rfl _ (pg_load BP) ?_) | fail)
        refine HC.out.mono ?_
        intro ex w3 hret
        obtain ⟨l3, k3, A2, N2, V2, st2, e2, ln2, k2, g5, rfl, hsp2, hg5⟩ := one_uni hret HREST.out
        obtain ⟨⟨b1, b2, b3, rfl⟩, ⟨m1, m2, m3, rfl⟩, ⟨u1, u2, u3, rfl⟩⟩ := hsp2.forms
        rw [HRUN2.out] at hsp2
        have BR3 := k3.blk BR (by decide)
        have BP3 := k3.blk BP (by decide)
        have BD3 := k3.blk BD (by decide)
        have bal : Below w3.heap.size w3 (w3.alloc (.cells (rnC (.slice none 0 0) (.slice none 0 0) (.slice none 0 0) 0 0 0) 130)) := (Below.refl _ _).alloc (Nat.le_refl _) _
        have B9 := Blk.new w3 (rnC (.slice none 0 0) (.slice none 0 0) (.slice none 0 0) 0 0 0) 130
        have hst5 := blk_store (c' := rnC (.slice b1 b2 b3) (.slice m1 m2 m3) (.slice u1 u2 u3) st2 e2 ln2) B9 size130 rfl rfl
        have s5 := setRow_stays (w3.alloc (.cells (rnC (.slice none 0 0) (.slice none 0 0) (.slice none 0 0) 0 0 0) 130)) w3.heap.size (rnC (.slice b1 b2 b3) (.slice m1 m2 m3) (.slice u1 u2 u3) st2 e2 ln2)
        have B95 := setRow_heap (w3.alloc (.cells (rnC (.slice none 0 0) (.slice none 0 0) (.slice none 0 0) 0 0 0) 130)) w3.heap.size _ (rnC (.slice b1 b2 b3) (.slice m1 m2 m3) (.slice u1 u2 u3) st2 e2 ln2) 130 B9
        obtain ⟨w5, hw5⟩ : ∃ w5, w5 = (w3.alloc (.cells (rnC (.slice none 0 0) (.slice none 0 0) (.slice none 0 0) 0 0 0) 130)).setRow w3.heap.size (rnC (.slice b1 b2 b3) (.slice m1 m2 m3) (.slice u1 u2 u3) st2 e2 ln2) := ⟨_, rfl⟩
        rw [← hw5] at hst5 s5 B95
        have b35 : Below w3.heap.size w3 w5 := bal.trans (s5.below bal.size (fun j hj e => by have e' : j = w3.heap.size := e; omega))
        have BR5 := BR3.below b35
        have BP5 := BP3.below b35
        have BD5 := BD3.below b35
        have hst6 := blk_store (c' := rnC (.slice b1 b2 b3) (.slice m1 m2 m3) (.slice u1 u2 u3) st2 e2 ln2) BR5 size130 rfl rfl
        have s6 := setRow_stays w5 w.heap.size (rnC (.slice b1 b2 b3) (.slice m1 m2 m3) (.slice u1 u2 u3) st2 e2 ln2)
        have BR6 := setRow_heap w5 w.heap.size _ (rnC (.slice b1 b2 b3) (.slice m1 m2 m3) (.slice u1 u2 u3) st2 e2 ln2) 130 BR5
        have BP6 := BP5.stays s6 (by omega)
        have BD6 := BD5.stays s6 (by omega)
        obtain ⟨w6, hw6⟩ : ∃ w6, w6 = w5.setRow w.heap.size (rnC (.slice b1 b2 b3) (.slice m1 m2 m3) (.slice u1 u2 u3) st2 e2 ln2) := ⟨_, rfl⟩
        rw [← hw6] at hst6 s6 BR6 BP6 BD6
        have hsp6 := hsp2.move fun s h => (h.below b35).stays BR5 (by decide) s6
        have hz3 := l3.size
        have hz5 := b35.size
        have hz6 := s6.size
        have hR3 := BR3.lt
        have l6 : Below w0.heap.size w w6 := (lr.trans l3).trans ((b35.mono (by omega)).trans (s6.below (by omega) (fun j hj e => by have e' : j = w.heap.size := e; omega)))
        have k6 : KeptA w w6 := fun kk cur T z hT hk => by
          have hlt := (Array.getElem?_eq_some_iff.1 hk).1
          have h3 := (kr.trans k3) kk cur T z hT hk
          rw [s6.block kk (by omega) (fun e => by have e' : kk = w.heap.size := e; omega), b35.block kk (by omega)]
          exact h3
        have HST5 := Lib.hid hst5
        have HST6 := Lib.hid hst6
        have HFIN := Lib.hid (show ∃ g0, g0 ≤ hi + 1 - nx ∧ SpAt w0 (.slice (some ⟨G, 0, none⟩) n c) (.slice g2 n c2) (.slice g3 n c3) T hi res w6 g0 _ _ _ st2 e2 ln2 k2 ∧ Below w0.heap.size w w6 ∧ KeptA w w6 ∧ w.heap.size ≤ w6.heap.size ∧ Blk w6 w.heap.size _ 130 ∧ Blk w6 (w.heap.size + 1) _ 126 ∧ (∃ cs, Blk w6 (w.heap.size + 1 + 1) cs 130 ∧ cs.size = 6) from ⟨g5, hg5, hsp6, l6, k6, by omega, BR6, BP6, _, BD6, hs8⟩)
        clear hsp2 hst5 hst6 hw5 hw6 s5 s6 bal b35 BR3 BP3 BD3 BP5 BD5 BR6 BP6 BD6 hsp6 l6 k6 hret l3 k3 y4 p0 hcell d0
        go_wp2_with (first | (refine wpList_val (o := ⟨some 9, Op.alloc 130, _, _, _, _⟩) rfl (Instr.alloc 130 true (.tuple #[])) rfl _ (zero130 _) ?_) | (refine wpList_unit (o := ⟨none, Op.store 130 (.tmp 9) _, _, _, _, _⟩) rfl rfl (Instr.storeAt 130 _ _) rfl HST5.out ?_) | (refine wpList_val (o := ⟨some 35, Op.load 130 _, _, _, _, _⟩) rfl (Instr.loadAt 130 _) rfl _ (rn_load B95) ?_) | (refine wpList_unit (o := ⟨none, Op.store 130 (.tmp 4) _, _, _, _, _⟩) rfl rfl (Instr.storeAt 130 _ _) rfl HST6.out ?_) | fail)
        obtain ⟨g0, hg0, h⟩ := HFIN.out
        go_roundg g0
        case measure => have := HG.out; omega
        case rel => exact ⟨_, _, _, _, _, _, _, rfl, h⟩
    · have HNG := Lib.hid hgo
      have HFIN := Lib.hid (span_fin (by omega) lr kr BD (by omega) HSP.out (R := w.heap.size + 1 + 1) (by
        by_cases he : e = 0
        · exact .inr (fun h => hgo ⟨he, h⟩)
        · exact .inl he) (fun i hk he => by
        rcases HSP.out with ⟨i', _, _, h1, _, _, _, h5, _⟩ | h
        · have := h5.le; omega
        · exact absurd he h.1))
      have hends : ∀ x : Unit, True := fun _ => trivial
      clear hsp HSP
      by_cases hk : k < hi
      · have d0 : (e == 0) = false := by
          have : e ≠ 0 := fun h => hgo ⟨h, hk⟩
          simpa using this
        clear hgo
        go_wp2_with (first | (refine wpList_val (o := ⟨some 37, Op.load 130 _, _, _, _, _⟩) rfl (Instr.loadAt 130 _) rfl _ (rn_load BR) ?_) | (refine wpList_unit (o := ⟨none, Op.store 130 (.tmp 8) _, _, _, _, _⟩) rfl rfl (Instr.storeAt 130 _ _) rfl (blk_store (c' := rnC (.slice a1 a2 a3) (.slice n1 n2 n3) (.slice v1 v2 v3) st e ln) BD size130 hs8 rfl) ?_) | fail)
        exact ⟨rfl, _, res63 (setRow_heap wr (w.heap.size + 1 + 1) _ (rnC (.slice a1 a2 a3) (.slice n1 n2 n3) (.slice v1 v2 v3) st e ln) 130 BD) rfl rfl, HFIN.out⟩
      · clear hgo
        go_wp2_with (first | (refine wpList_val (o := ⟨some 37, Op.load 130 _, _, _, _, _⟩) rfl (Instr.loadAt 130 _) rfl _ (rn_load BR) ?_) | (refine wpList_unit (o := ⟨none, Op.store 130 (.tmp 8) _, _, _, _, _⟩) rfl rfl (Instr.storeAt 130 _ _) rfl (blk_store (c' := rnC (.slice a1 a2 a3) (.slice n1 n2 n3) (.slice v1 v2 v3) st e ln) BD size130 hs8 rfl) ?_) | fail)
        exact ⟨rfl, _, res63 (setRow_heap wr (w.heap.size + 1 + 1) _ (rnC (.slice a1 a2 a3) (.slice n1 n2 n3) (.slice v1 v2 v3) st e ln) 130 BD) rfl rfl, HFIN.out⟩
end Go.Proofs.YtddnmocoaahlfaaGreatDoor
