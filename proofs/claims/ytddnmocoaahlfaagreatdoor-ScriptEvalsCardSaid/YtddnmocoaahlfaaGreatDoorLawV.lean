/-
  The law ScriptValues, walked. Conditions: the package-level variables hold what the program lays; the rows of names and values lie in memory.
-/
import Derived.Test.YtddnmocoaahlfaaGreatDoorLawA
import Derived.Test.YtddnmocoaahlfaaGreatDoorNum
import Derived.Test.YtddnmocoaahlfaaGreatDoorEval
set_option linter.unusedVariables false
set_option linter.unusedSimpArgs false
namespace Go.Proofs.YtddnmocoaahlfaaGreatDoor
open Go.RowKit Go.Shelf

set_option maxRecDepth 100000 in
set_option maxHeartbeats 8000000 in
theorem values_walk {w : World} (he : Env w) (s : ByteArray) {nv vv : Value} {ns : List ByteArray} {vs : List Int} (hn : SRw w nv ns) (hnb : ∀ x ∈ ns, x.size ≤ maxLen) (hv : NRow w vv vs) (hI : ∀ v ∈ vs, I64 v) (hm1 : ns.length ≤ maxLen) (hm2 : vs.length ≤ maxLen) : Calls Tryz.prog 12 #[.string s, nv, vv] w (RetT w) := by
  have HA := Lib.hid (awake_any he)
  obtain ⟨na, nc, rfl⟩ := hn.form
  obtain ⟨va, vc, rfl⟩ := hv.form
  have hm1' : ns.length ≤ 9223372036854775807 := by unfold maxLen at hm1; omega
  have hm2' : vs.length ≤ 9223372036854775807 := by unfold maxLen at hm2; omega
  by_cases hbig : 1000 < s.size
  · have hd : decide ((1000 : Int) < (s.size : Int)) = true := decide_eq_true (by omega)
    clear he hn hv
    go_enter Tryz.func12, Tryz.ntmps12
    go_wp2_with fail
    refine HA.out.mono ?_
    rintro e w1 ⟨rfl, b1⟩
    go_wp2_with fail
    go_ret
    exact ⟨rfl, b1⟩
  have hd : decide ((1000 : Int) < (s.size : Int)) = false := decide_eq_false (by omega)
  by_cases hb2 : 100 < ns.length
  · have hd2 : decide ((100 : Int) < (ns.length : Int)) = true := decide_eq_true (by omega)
    clear he hn hv
    go_enter Tryz.func12, Tryz.ntmps12
    go_wp2_with fail
    refine HA.out.mono ?_
    rintro e w1 ⟨rfl, b1⟩
    go_wp2_with fail
    go_ret
    exact ⟨rfl, b1⟩
  have hd2 : decide ((100 : Int) < (ns.length : Int)) = false := decide_eq_false (by omega)
  by_cases hb3 : 100 < vs.length
  · have hd3 : decide ((100 : Int) < (vs.length : Int)) = true := decide_eq_true (by omega)
    clear he hn hv
    go_enter Tryz.func12, Tryz.ntmps12
    go_wp2_with fail
    refine HA.out.mono ?_
    rintro e w1 ⟨rfl, b1⟩
    go_wp2_with fail
    go_ret
    exact ⟨rfl, b1⟩
  have hd3 : decide ((100 : Int) < (vs.length : Int)) = false := decide_eq_false (by omega)
  have ev : ∀ W, Below w.heap.size w W → ∀ (t : ByteArray) (l : List UInt8) (x y : Int), txt t = l → t.size ≤ 65536 → evalT l (scopeOf ns vs) = (x, y) → Calls Tryz.prog 34 #[.string t, .slice na ns.length nc, .slice va vs.length vc] W (fun e w' => Below W.heap.size W w' ∧ e = .returned (.tuple #[.int .i64 x, .int .i64 y])) := by
    rintro W hW t _ x y rfl ht hxy
    have h := eval_any ht (he.errR.below hW) (hn.below hW) hnb (hv.below hW) hI (by omega) (by omega)
    rw [hxy] at h
    exact h
  have law := values_law (txt s) (scopeOf ns vs)
  have HE := Lib.hid he
  have hss := (show (txt s).length = s.size by simp)
  have HEV := Lib.hid ev
  cases h0 : evalT (txt s) (scopeOf ns vs) with | mk x0 y0 =>
  cases h1 : evalT (40 :: (txt s ++ [41])) (scopeOf ns vs) with | mk x1 y1 =>
  cases h2 : evalT (48 :: 43 :: 40 :: (txt s ++ [41])) (scopeOf ns vs) with | mk x2 y2 =>
  cases h3 : evalT (45 :: 45 :: 40 :: (txt s ++ [41])) (scopeOf ns vs) with | mk x3 y3 =>
  cases h4 : evalT (40 :: (txt s ++ 41 :: 61 :: 40 :: (txt s ++ [41]))) (scopeOf ns vs) with | mk x4 y4 =>
  rw [h0, h1, h2, h3, h4] at law
  simp only at law
  have E0 := Lib.hid (ev w (Below.refl _ _) s _ x0 y0 rfl (by omega) h0)
  have L1 : (⟨#[40]⟩ : ByteArray).size = 1 := rfl
  have L2 : (⟨#[41]⟩ : ByteArray).size = 1 := rfl
  have L3 : (⟨#[48, 43, 40]⟩ : ByteArray).size = 3 := rfl
  have L4 : (⟨#[45, 45, 40]⟩ : ByteArray).size = 3 := rfl
  have L5 : (⟨#[41, 61, 40]⟩ : ByteArray).size = 3 := rfl
  have c1 := cat_ok (a := ⟨#[40]⟩) (b := s) (by omega)
  have c2 := cat_ok (a := ⟨#[40]⟩ ++ s) (b := ⟨#[41]⟩) (by simp only [ByteArray.size_append]; omega)
  have c3 := cat_ok (a := ⟨#[48, 43, 40]⟩) (b := s) (by omega)
  have c4 := cat_ok (a := ⟨#[48, 43, 40]⟩ ++ s) (b := ⟨#[41]⟩) (by simp only [ByteArray.size_append]; omega)
  have c5 := cat_ok (a := ⟨#[45, 45, 40]⟩) (b := s) (by omega)
  have c6 := cat_ok (a := ⟨#[45, 45, 40]⟩ ++ s) (b := ⟨#[41]⟩) (by simp only [ByteArray.size_append]; omega)
  have c7 := cat_ok (a := ⟨#[40]⟩ ++ s) (b := ⟨#[41, 61, 40]⟩) (by simp only [ByteArray.size_append]; omega)
  have c8 := cat_ok (a := ⟨#[40]⟩ ++ s ++ ⟨#[41, 61, 40]⟩) (b := s) (by simp only [ByteArray.size_append]; omega)
  have c9 := cat_ok (a := ⟨#[40]⟩ ++ s ++ ⟨#[41, 61, 40]⟩ ++ s) (b := ⟨#[41]⟩) (by simp only [ByteArray.size_append]; omega)
  have F1 := Lib.hid (fun W hW => ev W hW (⟨#[40]⟩ ++ s ++ ⟨#[41]⟩) _ x1 y1 (by simp) (by simp only [ByteArray.size_append]; omega) h1)
  have F2 := Lib.hid (fun W hW => ev W hW (⟨#[48, 43, 40]⟩ ++ s ++ ⟨#[41]⟩) _ x2 y2 (by simp) (by simp only [ByteArray.size_append]; omega) h2)
  have F3 := Lib.hid (fun W hW => ev W hW (⟨#[45, 45, 40]⟩ ++ s ++ ⟨#[41]⟩) _ x3 y3 (by simp) (by simp only [ByteArray.size_append]; omega) h3)
  have F4 := Lib.hid (fun W hW => ev W hW (⟨#[40]⟩ ++ s ++ ⟨#[41, 61, 40]⟩ ++ s ++ ⟨#[41]⟩) _ x4 y4 (by simp) (by simp only [ByteArray.size_append]; omega) h4)
  have LAW := Lib.hid law
  clear h0 h1 h2 h3 h4 law ev hn hv he hnb hI HEV L1 L2 L3 L4 L5 hss
  go_enter Tryz.func12, Tryz.ntmps12
  go_wp2_with fail
  refine E0.out.mono ?_
  rintro e w1 ⟨b1, rfl⟩
  by_cases q4 : y0 = 4
  · have z4 : (y0 == 4) = true := beq_iff_eq.2 q4
    have z0 : (x0 == 0) = true := beq_iff_eq.2 (LAW.out.1 q4)
    have HA1 := Lib.hid (awake_any (HE.out.below b1))
    go_wp2_with fail
    refine HA1.out.mono ?_
    rintro e w2 ⟨rfl, b2⟩
    go_wp2_with fail
    go_ret
    exact ⟨rfl, b1.trans (b2.mono b1.size)⟩
  have z4 : (y0 == 4) = false := beq_eq_false_iff_ne.2 q4
  go_wp2_with fail
  refine (F1.out w1 b1).mono ?_
  rintro e w2 ⟨b2, rfl⟩
  have b02 := b1.trans (b2.mono b1.size)
  by_cases p4 : y1 = 4
  · have zz : (y1 == 4) = true := beq_iff_eq.2 p4
    have HA1 := Lib.hid (awake_any (HE.out.below b02))
    clear c1 c2 c3 c4 c5 c6 c7 c8 c9
    go_wp2_with fail
    refine HA1.out.mono ?_
    rintro e w3 ⟨rfl, b3⟩
    go_wp2_with fail
    go_ret
    exact ⟨rfl, b02.trans (b3.mono b02.size)⟩
  have zz : (y1 == 4) = false := beq_eq_false_iff_ne.2 p4
  have hl := LAW.out.2 q4 p4
  obtain ⟨y10, y20, y30, y40, he1, he0⟩ := hl
  have g1 : (y1 == y0) = true := beq_iff_eq.2 y10
  have g2 : (y2 == y0) = true := beq_iff_eq.2 y20
  have g3 : (y3 == y0) = true := beq_iff_eq.2 y30
  have g4 : (y4 == y0) = true := beq_iff_eq.2 y40
  have H1 := Lib.hid he1
  have H0 := Lib.hid he0
  clear LAW he1 he0 c1 c2 y10 y20 y30 y40
  go_wp2_with fail
  refine (F2.out w2 b02).mono ?_
  rintro e w3 ⟨b3, rfl⟩
  have b03 := b02.trans (b3.mono b02.size)
  clear c3 c4
  go_wp2_with fail
  refine (F3.out w3 b03).mono ?_
  rintro e w4 ⟨b4, rfl⟩
  have b04 := b03.trans (b4.mono b03.size)
  have c1 := cat_ok (a := ⟨#[40]⟩) (b := s) (by have : (⟨#[40]⟩ : ByteArray).size = 1 := rfl; omega)
  clear c5 c6
  go_wp2_with fail
  refine (F4.out w4 b04).mono ?_
  rintro e w5 ⟨b5, rfl⟩
  have b05 := b04.trans (b5.mono b04.size)
  have HA5 := Lib.hid (awake_any (HE.out.below b05))
  clear c7 c8 c9 c1
  by_cases e0 : y0 = 0
  · obtain ⟨hw, k1, k2, k3, k4⟩ := H0.out e0
    have yz : (y0 != 0) = false := by simp [e0]
    have m1 : (x1 == x0) = true := beq_iff_eq.2 k1
    have m2 : (x2 == x0) = true := beq_iff_eq.2 k2
    have m3 : (x3 == x0) = true := beq_iff_eq.2 k3
    have m4 : (x4 == 1) = true := beq_iff_eq.2 k4
    have HW := within_any x0 w5
    rw [decide_eq_true hw] at HW
    have HWW := Lib.hid HW
    clear H0 H1 hw HW e0 k1 k2 k3 k4
    go_wp2_with fail
    refine HWW.out.mono ?_
    rintro e w6 ⟨rfl, rfl⟩
    go_wp2_with fail
    refine HA5.out.mono ?_
    rintro e w7 ⟨rfl, b7⟩
    go_wp2_with fail
    go_ret
    exact ⟨rfl, b05.trans (b7.mono b05.size)⟩
  · have yz : (y0 != 0) = true := by simp [e0]
    have x00 : (x0 == 0) = true := beq_iff_eq.2 (H1.out e0)
    clear H0 H1 e0
    go_wp2_with fail
    refine HA5.out.mono ?_
    rintro e w7 ⟨rfl, b7⟩
    go_wp2_with fail
    go_ret
    exact ⟨rfl, b05.trans (b7.mono b05.size)⟩
end Go.Proofs.YtddnmocoaahlfaaGreatDoor
