/-
  The law ScriptChoices, walked. Conditions: the package-level variables hold what the program lays.
-/
import Derived.Test.YtddnmocoaahlfaaGreatDoorLawA
import Derived.Test.YtddnmocoaahlfaaGreatDoorEval
set_option linter.unusedVariables false
set_option linter.unusedSimpArgs false
namespace Go.Proofs.YtddnmocoaahlfaaGreatDoor
open Go.RowKit Go.Shelf

set_option maxRecDepth 100000 in
set_option maxHeartbeats 8000000 in
theorem choices_walk {w : World} (he : Env w) (s t u : ByteArray) : Calls Tryz.prog 11 #[.string s, .string t, .string u] w (RetT w) := by
  have HA := Lib.hid (awake_any he)
  by_cases hb1 : 500 < s.size
  · have hd : decide ((500 : Int) < (s.size : Int)) = true := decide_eq_true (by omega)
    clear he
    go_enter Tryz.func11, Tryz.ntmps11
    go_wp2_with fail
    refine HA.out.mono ?_
    rintro e w1 ⟨rfl, b1⟩
    go_wp2_with fail
    go_ret
    exact ⟨rfl, b1⟩
  have hd : decide ((500 : Int) < (s.size : Int)) = false := decide_eq_false (by omega)
  by_cases hb2 : 500 < t.size
  · have hd2 : decide ((500 : Int) < (t.size : Int)) = true := decide_eq_true (by omega)
    clear he
    go_enter Tryz.func11, Tryz.ntmps11
    go_wp2_with fail
    refine HA.out.mono ?_
    rintro e w1 ⟨rfl, b1⟩
    go_wp2_with fail
    go_ret
    exact ⟨rfl, b1⟩
  have hd2 : decide ((500 : Int) < (t.size : Int)) = false := decide_eq_false (by omega)
  by_cases hb3 : 500 < u.size
  · have hd3 : decide ((500 : Int) < (u.size : Int)) = true := decide_eq_true (by omega)
    clear he
    go_enter Tryz.func11, Tryz.ntmps11
    go_wp2_with fail
    refine HA.out.mono ?_
    rintro e w1 ⟨rfl, b1⟩
    go_wp2_with fail
    go_ret
    exact ⟨rfl, b1⟩
  have hd3 : decide ((500 : Int) < (u.size : Int)) = false := decide_eq_false (by omega)
  have HE := Lib.hid he
  have HC1 := Lib.hid (comp_any he t)
  have law := choices_law (e := txt s) (yes := txt t) (no := txt u) (by simp; omega) (by simp; omega) (by simp; omega)
  have LAW := Lib.hid law
  clear he law HA
  have L1 : (⟨#[105, 102, 32]⟩ : ByteArray).size = 3 := rfl
  have L2 : (⟨#[10]⟩ : ByteArray).size = 1 := rfl
  have L3 : (⟨#[10, 101, 108, 115, 101, 10]⟩ : ByteArray).size = 6 := rfl
  have L4 : (⟨#[10, 101, 110, 100, 10]⟩ : ByteArray).size = 5 := rfl
  have c1 := cat_ok (a := ⟨#[105, 102, 32]⟩) (b := s) (by omega)
  have c2 := cat_ok (a := ⟨#[105, 102, 32]⟩ ++ s) (b := ⟨#[10]⟩) (by simp only [ByteArray.size_append]; omega)
  have c3 := cat_ok (a := ⟨#[105, 102, 32]⟩ ++ s ++ ⟨#[10]⟩) (b := t) (by simp only [ByteArray.size_append]; omega)
  have c4 := cat_ok (a := ⟨#[105, 102, 32]⟩ ++ s ++ ⟨#[10]⟩ ++ t) (b := ⟨#[10, 101, 108, 115, 101, 10]⟩) (by simp only [ByteArray.size_append]; omega)
  have c5 := cat_ok (a := ⟨#[105, 102, 32]⟩ ++ s ++ ⟨#[10]⟩ ++ t ++ ⟨#[10, 101, 108, 115, 101, 10]⟩) (b := u) (by simp only [ByteArray.size_append]; omega)
  have c6 := cat_ok (a := ⟨#[105, 102, 32]⟩ ++ s ++ ⟨#[10]⟩ ++ t ++ ⟨#[10, 101, 108, 115, 101, 10]⟩ ++ u) (b := ⟨#[10, 101, 110, 100, 10]⟩) (by simp only [ByteArray.size_append]; omega)
  have hlb : txt (⟨#[105, 102, 32]⟩ ++ s ++ ⟨#[10]⟩ ++ t ++ ⟨#[10, 101, 108, 115, 101, 10]⟩ ++ u ++ ⟨#[10, 101, 110, 100, 10]⟩) = choiceT (txt s) (txt t) (txt u) := by
    simp [choiceT, sIf, sElse, sEnd]
  have HLB := Lib.hid hlb
  clear hlb L1 L2 L3 L4
  go_enter Tryz.func11, Tryz.ntmps11
  go_wp2_with fail
  refine HC1.out.mono ?_
  rintro e w1 ⟨b1, v1, rfl, a1, n1⟩
  obtain ⟨p1, k1, rfl⟩ := a1.form
  have HC2 := Lib.hid (comp_any (HE.out.below b1) u)
  clear a1 n1 HC1
  go_wp2_with fail
  refine HC2.out.mono ?_
  rintro e w2 ⟨b2, v2, rfl, a2, n2⟩
  obtain ⟨p2, k2, rfl⟩ := a2.form
  have b02 := b1.trans (b2.mono b1.size)
  have hev := eval_any (w := w2) (s := s) (nv := .slice none 0 0) (vv := .slice none 0 0) (ns := []) (vs := []) (by omega) (HE.out.below b02).errR (.inl ⟨rfl, _, _, rfl⟩) (by simp) (.inl ⟨rfl, _, _, rfl⟩) (by simp) (by simp) (by simp)
  have hsc : scopeOf [] [] = fun _ => none := rfl
  rw [hsc] at hev
  have HEV := Lib.hid hev
  clear a2 n2 HC2 hev hsc
  go_wp2_with fail
  refine HEV.out.mono ?_
  rintro e w3 ⟨b3, rfl⟩
  have b03 := b02.trans (b3.mono b02.size)
  have E3 := Lib.hid (HE.out.below b03)
  have HA3 := Lib.hid (awake_any E3.out)
  have hc3 := comp_any E3.out (⟨#[105, 102, 32]⟩ ++ s ++ ⟨#[10]⟩ ++ t ++ ⟨#[10, 101, 108, 115, 101, 10]⟩ ++ u ++ ⟨#[10, 101, 110, 100, 10]⟩)
  rw [HLB.out] at hc3
  have HC3 := Lib.hid hc3
  clear hc3 HEV HLB
  obtain ⟨cy, hcy⟩ : ∃ q, q = (compT (txt t)).2.2 := ⟨_, rfl⟩
  obtain ⟨cn, hcn⟩ : ∃ q, q = (compT (txt u)).2.2 := ⟨_, rfl⟩
  obtain ⟨r, hr⟩ : ∃ q, q = evalT (txt s) (fun _ => none) := ⟨_, rfl⟩
  rw [← hcy, ← hcn, ← hr] at LAW
  rw [← hcy, ← hcn, ← hr]
  clear hcy hcn hr
  by_cases y4 : cy = 4
  · have z4 : (cy == 4) = true := beq_iff_eq.2 y4
    clear c1 c2 c3 c4 c5 c6
    go_wp2_with fail
    refine HA3.out.mono ?_
    rintro e wz ⟨rfl, bz⟩
    go_wp2_with fail
    go_ret
    exact ⟨rfl, b03.trans (bz.mono b03.size)⟩
  have z4 : (cy == 4) = false := beq_eq_false_iff_ne.2 y4
  by_cases n4 : cn = 4
  · have zn4 : (cn == 4) = true := beq_iff_eq.2 n4
    clear c1 c2 c3 c4 c5 c6
    go_wp2_with fail
    refine HA3.out.mono ?_
    rintro e wz ⟨rfl, bz⟩
    go_wp2_with fail
    go_ret
    exact ⟨rfl, b03.trans (bz.mono b03.size)⟩
  have zn4 : (cn == 4) = false := beq_eq_false_iff_ne.2 n4
  by_cases g0 : r.2 = 0
  rotate_left
  · have zg : (r.2 != 0) = true := by simp [g0]
    clear c1 c2 c3 c4 c5 c6
    go_wp2_with fail
    refine HA3.out.mono ?_
    rintro e wz ⟨rfl, bz⟩
    go_wp2_with fail
    go_ret
    exact ⟨rfl, b03.trans (bz.mono b03.size)⟩
  have zg : (r.2 != 0) = false := by simp [g0]
  have Y4 := Lib.hid y4
  have N4 := Lib.hid n4
  have G0 := Lib.hid g0
  clear y4 n4 g0
  go_wp2_with fail
  refine HC3.out.mono ?_
  rintro e w4 ⟨b4, v4, rfl, a4, n4⟩
  have A4 := Lib.hid a4
  have NN4 := Lib.hid n4
  obtain ⟨p4, k4, rfl⟩ := a4.form
  have b04 := b03.trans (b4.mono b03.size)
  clear a4 n4 HC3 c1 c2 c3 c4 c5 c6
  by_cases hz : r.1 = 0
  · have zz : (r.1 == 0) = true := beq_iff_eq.2 hz
    have law2 := LAW.out Y4.out N4.out G0.out
    rw [if_pos hz] at law2
    have LAW2 := Lib.hid law2
    have HC5 := Lib.hid (comp_any (HE.out.below b04) u)
    have HA4 := Lib.hid (awake_any (HE.out.below b04))
    clear LAW law2 hz
    go_wp2_with fail
    refine HC5.out.mono ?_
    rintro e w5 ⟨b5, v5, rfl, a5, n5⟩
    have A5 := Lib.hid a5
    obtain ⟨p5, k5, rfl⟩ := a5.form
    have b05 := b04.trans (b5.mono b04.size)
    have HA5 := Lib.hid (awake_any (HE.out.below b05))
    clear a5 n5 HC5 HA4
    generalize compT (choiceT (txt s) (txt t) (txt u)) = F at *
    generalize compT (txt u) = G at *
    by_cases f4 : F.2.2 = 4
    · have x4 : (F.2.2 == 4) = true := beq_iff_eq.2 f4
      go_wp2_with fail
      refine HA5.out.mono ?_
      rintro e wz ⟨rfl, bz⟩
      go_wp2_with fail
      go_ret
      exact ⟨rfl, b05.trans (bz.mono b05.size)⟩
    have x4 : (F.2.2 == 4) = false := beq_eq_false_iff_ne.2 f4
    by_cases f5 : F.2.2 = 5
    · have x5 : (F.2.2 == 5) = true := beq_iff_eq.2 f5
      go_wp2_with fail
      refine HA5.out.mono ?_
      rintro e wz ⟨rfl, bz⟩
      go_wp2_with fail
      go_ret
      exact ⟨rfl, b05.trans (bz.mono b05.size)⟩
    have x5 : (F.2.2 == 5) = false := beq_eq_false_iff_ne.2 f5
    by_cases g5 : G.2.2 = 5
    · have y5 : (G.2.2 == 5) = true := beq_iff_eq.2 g5
      go_wp2_with fail
      refine HA5.out.mono ?_
      rintro e wz ⟨rfl, bz⟩
      go_wp2_with fail
      go_ret
      exact ⟨rfl, b05.trans (bz.mono b05.size)⟩
    have y5 : (G.2.2 == 5) = false := beq_eq_false_iff_ne.2 g5
    have hl := LAW2.out f4 f5 g5
    have dE : (F.2.2 == G.2.2) = true := beq_iff_eq.2 hl.1
    have a5' := A5.out
    have hcl : G.1.length = F.1.length := by rw [hl.2]
    rw [← hl.2] at a5'
    rw [hcl]
    have HS := Lib.hid (sameActs_eq (A4.out.below b5) a5' NN4.out)
    clear a5' hcl hl A4 A5 LAW2 f5 g5 f4 NN4 HA5
    go_wp2_with fail
    refine HS.out.mono ?_
    rintro e w6 ⟨rfl, b6⟩
    have b06 := b05.trans (b6.mono b05.size)
    have HA6 := Lib.hid (awake_any (HE.out.below b06))
    go_wp2_with fail
    refine HA6.out.mono ?_
    rintro e w7 ⟨rfl, b7⟩
    go_wp2_with fail
    go_ret
    exact ⟨rfl, b06.trans (b7.mono b06.size)⟩
  · have zz : (r.1 == 0) = false := beq_eq_false_iff_ne.2 hz
    have law2 := LAW.out Y4.out N4.out G0.out
    rw [if_neg hz] at law2
    have LAW2 := Lib.hid law2
    have HC5 := Lib.hid (comp_any (HE.out.below b04) t)
    have HA4 := Lib.hid (awake_any (HE.out.below b04))
    clear LAW law2 hz
    go_wp2_with fail
    refine HC5.out.mono ?_
    rintro e w5 ⟨b5, v5, rfl, a5, n5⟩
    have A5 := Lib.hid a5
    obtain ⟨p5, k5, rfl⟩ := a5.form
    have b05 := b04.trans (b5.mono b04.size)
    have HA5 := Lib.hid (awake_any (HE.out.below b05))
    clear a5 n5 HC5 HA4
    generalize compT (choiceT (txt s) (txt t) (txt u)) = F at *
    generalize compT (txt t) = G at *
    by_cases f4 : F.2.2 = 4
    · have x4 : (F.2.2 == 4) = true := beq_iff_eq.2 f4
      go_wp2_with fail
      refine HA5.out.mono ?_
      rintro e wz ⟨rfl, bz⟩
      go_wp2_with fail
      go_ret
      exact ⟨rfl, b05.trans (bz.mono b05.size)⟩
    have x4 : (F.2.2 == 4) = false := beq_eq_false_iff_ne.2 f4
    by_cases f5 : F.2.2 = 5
    · have x5 : (F.2.2 == 5) = true := beq_iff_eq.2 f5
      go_wp2_with fail
      refine HA5.out.mono ?_
      rintro e wz ⟨rfl, bz⟩
      go_wp2_with fail
      go_ret
      exact ⟨rfl, b05.trans (bz.mono b05.size)⟩
    have x5 : (F.2.2 == 5) = false := beq_eq_false_iff_ne.2 f5
    by_cases g5 : G.2.2 = 5
    · have y5 : (G.2.2 == 5) = true := beq_iff_eq.2 g5
      go_wp2_with fail
      refine HA5.out.mono ?_
      rintro e wz ⟨rfl, bz⟩
      go_wp2_with fail
      go_ret
      exact ⟨rfl, b05.trans (bz.mono b05.size)⟩
    have y5 : (G.2.2 == 5) = false := beq_eq_false_iff_ne.2 g5
    have hl := LAW2.out f4 f5 g5
    have dE : (F.2.2 == G.2.2) = true := beq_iff_eq.2 hl.1
    have a5' := A5.out
    have hcl : G.1.length = F.1.length := by rw [hl.2]
    rw [← hl.2] at a5'
    rw [hcl]
    have HS := Lib.hid (sameActs_eq (A4.out.below b5) a5' NN4.out)
    clear a5' hcl hl A4 A5 LAW2 f5 g5 f4 NN4 HA5
    go_wp2_with fail
    refine HS.out.mono ?_
    rintro e w6 ⟨rfl, b6⟩
    have b06 := b05.trans (b6.mono b05.size)
    have HA6 := Lib.hid (awake_any (HE.out.below b06))
    go_wp2_with fail
    refine HA6.out.mono ?_
    rintro e w7 ⟨rfl, b7⟩
    go_wp2_with fail
    go_ret
    exact ⟨rfl, b06.trans (b7.mono b06.size)⟩
end Go.Proofs.YtddnmocoaahlfaaGreatDoor
