/-
  The law ScriptUnrolled, walked. Conditions: the package-level variables hold what the program lays.
-/
import Derived.Test.YtddnmocoaahlfaaGreatDoorLawA
import Derived.Test.YtddnmocoaahlfaaGreatDoorNum
set_option linter.unusedVariables false
set_option linter.unusedSimpArgs false
namespace Go.Proofs.YtddnmocoaahlfaaGreatDoor
open Go.RowKit Go.Shelf

theorem lineText_snoc (num : Int → List UInt8) (body : List UInt8) : ∀ (k : Nat) (v : Int), lineText num body (k + 1) v = lineText num body k v ++ oneText num body (v + k)
  | 0, v => by simp [lineText]
  | k + 1, v => by
    rw [lineText, lineText_snoc num body k (v + 1), lineText, List.append_assoc, show v + 1 + (k : Int) = v + ((k + 1 : Nat) : Int) by omega]
theorem lit_size (l : List UInt8) : (⟨l.toArray⟩ : ByteArray).size = l.length := rfl
theorem txt_size (s : ByteArray) : (txt s).length = s.size := by simp
theorem num_short {n : Int} (hn : I64 n) {s : ByteArray} (h : txt s = Lib.itoa n) : s.size ≤ 40 := by rw [← txt_size, h]; exact itoa_text.short n hn.1 hn.2
set_option maxRecDepth 100000 in
set_option maxHeartbeats 8000000 in
theorem unrolled_walk {w : World} (he : Env w) (s : ByteArray) {a c : Int} (ha : I64 a) (hcI : I64 c) : Calls Tryz.prog 8 #[.string s, .int .i64 a, .int .i64 c] w (RetT w) := by
  have HA := Lib.hid (awake_any he)
  have hw1 := within_any a w
  by_cases hbig : 1000 < s.size
  · have hd : decide ((1000 : Int) < (s.size : Int)) = true := decide_eq_true (by omega)
    clear he hw1
    go_enter Tryz.func8, Tryz.ntmps8
    go_wp2_with fail
    refine HA.out.mono ?_
    rintro e w1 ⟨rfl, b1⟩
    go_wp2_with fail
    go_ret
    exact ⟨rfl, b1⟩
  have hd : decide ((1000 : Int) < (s.size : Int)) = false := decide_eq_false (by omega)
  by_cases hWa : Within a
  rotate_left
  · rw [decide_eq_false hWa] at hw1
    have HW := Lib.hid hw1
    clear he hw1
    go_enter Tryz.func8, Tryz.ntmps8
    go_wp2_with fail
    refine HW.out.mono ?_
    rintro e w1 ⟨rfl, rfl⟩
    go_wp2_with fail
    refine HA.out.mono ?_
    rintro e w1 ⟨rfl, b1⟩
    go_wp2_with fail
    go_ret
    exact ⟨rfl, b1⟩
  rw [decide_eq_true hWa] at hw1
  have HW := Lib.hid hw1
  have ha1 : -9007199254740992 ≤ a := hWa.1
  have ha2 : a ≤ 9007199254740992 := hWa.2
  have hw2 := within_any (a + 20) w
  by_cases hWb : Within (a + 20)
  rotate_left
  · rw [decide_eq_false hWb] at hw2
    have HW2 := Lib.hid hw2
    clear he hw1 hw2
    go_enter Tryz.func8, Tryz.ntmps8
    go_wp2_with fail
    refine HW.out.mono ?_
    rintro e w1 ⟨rfl, rfl⟩
    go_wp2_with fail
    refine HW2.out.mono ?_
    rintro e w1 ⟨rfl, rfl⟩
    go_wp2_with fail
    refine HA.out.mono ?_
    rintro e w1 ⟨rfl, b1⟩
    go_wp2_with fail
    go_ret
    exact ⟨rfl, b1⟩
  rw [decide_eq_true hWb] at hw2
  have HW2 := Lib.hid hw2
  clear hw1 hw2
  by_cases hc0 : c < 0
  · have d0 : decide (c < 0) = true := decide_eq_true hc0
    clear he
    go_enter Tryz.func8, Tryz.ntmps8
    go_wp2_with fail
    refine HW.out.mono ?_
    rintro e w1 ⟨rfl, rfl⟩
    go_wp2_with fail
    refine HW2.out.mono ?_
    rintro e w1 ⟨rfl, rfl⟩
    go_wp2_with fail
    refine HA.out.mono ?_
    rintro e w1 ⟨rfl, b1⟩
    go_wp2_with fail
    go_ret
    exact ⟨rfl, b1⟩
  have d0 : decide (c < 0) = false := decide_eq_false hc0
  by_cases hc20 : 20 < c
  · have d20 : decide (20 < c) = true := decide_eq_true hc20
    clear he
    go_enter Tryz.func8, Tryz.ntmps8
    go_wp2_with fail
    refine HW.out.mono ?_
    rintro e w1 ⟨rfl, rfl⟩
    go_wp2_with fail
    refine HW2.out.mono ?_
    rintro e w1 ⟨rfl, rfl⟩
    go_wp2_with fail
    refine HA.out.mono ?_
    rintro e w1 ⟨rfl, b1⟩
    go_wp2_with fail
    go_ret
    exact ⟨rfl, b1⟩
  have d20 : decide (20 < c) = false := decide_eq_false hc20
  obtain ⟨k, rfl⟩ : ∃ k : Nat, c = k := ⟨c.toNat, by omega⟩
  have hk20 : k ≤ 20 := by omega
  have HC := Lib.hid (comp_any he s)
  have HE := Lib.hid he
  clear he d0 d20 hc0 hc20 hcI HA
  go_enter Tryz.func8, Tryz.ntmps8
  go_wp2_with fail
  refine HW.out.mono ?_
  rintro e w1 ⟨rfl, rfl⟩
  go_wp2_with fail
  refine HW2.out.mono ?_
  rintro e w1 ⟨rfl, rfl⟩
  go_wp2_with fail
  refine HC.out.mono ?_
  rintro e w1 ⟨b1, v1, rfl, a1, n1⟩
  obtain ⟨p1, c1, rfl⟩ := a1.form
  have E1 := Lib.hid (HE.out.below b1)
  have HA1 := Lib.hid (awake_any E1.out)
  clear a1 n1 HC HW HW2
  by_cases h4 : (compT (txt s)).2.2 = 4
  · have z4 : ((compT (txt s)).2.2 == 4) = true := beq_iff_eq.2 h4
    go_wp2_with fail
    refine HA1.out.mono ?_
    rintro e wz ⟨rfl, bz⟩
    go_wp2_with fail
    go_ret
    exact ⟨rfl, b1.trans (bz.mono b1.size)⟩
  have z4 : ((compT (txt s)).2.2 == 4) = false := beq_eq_false_iff_ne.2 h4
  by_cases h5 : (compT (txt s)).2.2 = 5
  · have z5 : ((compT (txt s)).2.2 == 5) = true := beq_iff_eq.2 h5
    go_wp2_with fail
    refine HA1.out.mono ?_
    rintro e wz ⟨rfl, bz⟩
    go_wp2_with fail
    go_ret
    exact ⟨rfl, b1.trans (bz.mono b1.size)⟩
  have z5 : ((compT (txt s)).2.2 == 5) = false := beq_eq_false_iff_ne.2 h5
  have H4 := Lib.hid h4
  clear h4 h5 HA1
  have hb : I64 (a + k - 1) := ⟨by omega, by omega⟩
  have HN1 := Lib.hid (number_any ha w1)
  have HN2 := Lib.hid (number_any hb w1)
  have HSS := Lib.hid (txt_size s)
  have L6 : (⟨#[102, 111, 114, 32, 105, 32]⟩ : ByteArray).size = 6 := rfl
  have L1 : (⟨#[32]⟩ : ByteArray).size = 1 := rfl
  have L1' : (⟨#[10]⟩ : ByteArray).size = 1 := rfl
  have L5 : (⟨#[10, 101, 110, 100, 10]⟩ : ByteArray).size = 5 := rfl
  have L6' : (⟨#[108, 101, 116, 32, 105, 32]⟩ : ByteArray).size = 6 := rfl
  go_wp2_with fail
  refine HN1.out.mono ?_
  rintro e w2 ⟨s1, rfl, t1, rfl⟩
  have y1 := num_short ha t1
  have hc1 := cat_ok (a := ⟨#[102, 111, 114, 32, 105, 32]⟩) (b := s1) (by omega)
  have hc2 := cat_ok (a := ⟨#[102, 111, 114, 32, 105, 32]⟩ ++ s1) (b := ⟨#[32]⟩) (by simp only [ByteArray.size_append]; omega)
  have T1 := Lib.hid t1
  clear t1
  go_wp2_with fail
  refine HN2.out.mono ?_
  rintro e w2 ⟨s2, rfl, t2, rfl⟩
  have y2 := num_short hb t2
  have hc3 := cat_ok (a := ⟨#[102, 111, 114, 32, 105, 32]⟩ ++ s1 ++ ⟨#[32]⟩) (b := s2) (by simp only [ByteArray.size_append]; omega)
  have hc4 := cat_ok (a := ⟨#[102, 111, 114, 32, 105, 32]⟩ ++ s1 ++ ⟨#[32]⟩ ++ s2) (b := ⟨#[10]⟩) (by simp only [ByteArray.size_append]; omega)
  have hc5 := cat_ok (a := ⟨#[102, 111, 114, 32, 105, 32]⟩ ++ s1 ++ ⟨#[32]⟩ ++ s2 ++ ⟨#[10]⟩) (b := s) (by simp only [ByteArray.size_append]; omega)
  have hc6 := cat_ok (a := ⟨#[102, 111, 114, 32, 105, 32]⟩ ++ s1 ++ ⟨#[32]⟩ ++ s2 ++ ⟨#[10]⟩ ++ s) (b := ⟨#[10, 101, 110, 100, 10]⟩) (by simp only [ByteArray.size_append]; omega)
  have hlb : txt (⟨#[102, 111, 114, 32, 105, 32]⟩ ++ s1 ++ ⟨#[32]⟩ ++ s2 ++ ⟨#[10]⟩ ++ s ++ ⟨#[10, 101, 110, 100, 10]⟩) = loopText Lib.itoa (txt s) a (a + k - 1) := by
    simp only [txt_append, T1.out, t2]
    simp [loopText, sFor, sEnd]
    rfl
  have HLB := Lib.hid hlb
  clear hlb t2
  go_wp2_with fail
  clear hc1 hc2 hc3 hc4 hc5 hc6
  generalize ((⟨#[102, 111, 114, 32, 105, 32]⟩ : ByteArray) ++ s1 ++ ⟨#[32]⟩ ++ s2 ++ ⟨#[10]⟩ ++ s ++ ⟨#[10, 101, 110, 100, 10]⟩) = lb at *
  clear HN1 HN2 T1
  go_loop [12, 11] (fun t v => ∃ (j : Nat) (sp : ByteArray), t = .int .i64 (a + j) ∧ j ≤ k ∧ v = .string sp ∧ txt sp = lineText Lib.itoa (txt s) j a ∧ sp.size ≤ 1100 * j) (fun t v => (a + k - intOf t).toNat)
  case atStart => exact ⟨0, _, by simp, Nat.zero_le _, rfl, rfl, by decide⟩
  case round =>
    obtain ⟨j, sp, rfl, hj, rfl, hsp, hsz⟩ := hrel
    have HSP := Lib.hid hsp
    clear hsp
    by_cases hlt : j < k
    · have dl : decide (a + (j : Int) < a + (k : Int)) = true := decide_eq_true (by omega)
      have hv : I64 (a + j) := ⟨by omega, by omega⟩
      have HNj := Lib.hid (number_any hv w2)
      have hc1 := cat_ok (a := sp) (b := ⟨#[108, 101, 116, 32, 105, 32]⟩) (by omega)
      go_wp2_with fail
      refine HNj.out.mono ?_
      rintro e w2 ⟨sj, rfl, tj, rfl⟩
      have y3 := num_short hv tj
      have hc2 := cat_ok (a := sp ++ ⟨#[108, 101, 116, 32, 105, 32]⟩) (b := sj) (by simp only [ByteArray.size_append]; omega)
      have hc3 := cat_ok (a := sp ++ ⟨#[108, 101, 116, 32, 105, 32]⟩ ++ sj) (b := ⟨#[10]⟩) (by simp only [ByteArray.size_append]; omega)
      have hc4 := cat_ok (a := sp ++ ⟨#[108, 101, 116, 32, 105, 32]⟩ ++ sj ++ ⟨#[10]⟩) (b := s) (by simp only [ByteArray.size_append]; omega)
      have hc5 := cat_ok (a := sp ++ ⟨#[108, 101, 116, 32, 105, 32]⟩ ++ sj ++ ⟨#[10]⟩ ++ s) (b := ⟨#[10]⟩) (by simp only [ByteArray.size_append]; omega)
      have htx : txt (sp ++ ⟨#[108, 101, 116, 32, 105, 32]⟩ ++ sj ++ ⟨#[10]⟩ ++ s ++ ⟨#[10]⟩) = lineText Lib.itoa (txt s) (j + 1) a := by
        rw [lineText_snoc]
        simp only [txt_append, tj, HSP.out]
        simp [oneText, sLet]
        rfl
      have HTX := Lib.hid htx
      clear htx tj
      go_wp2_with fail
      go_round
      case rel => exact ⟨j + 1, _, congrArg _ (by omega), by omega, rfl, HTX.out, by simp only [ByteArray.size_append]; omega⟩
      case measure => simp only [intOf]; omega
    · obtain rfl : k = j := by omega
      have dl : decide (a + (k : Int) < a + (k : Int)) = false := decide_eq_false (by omega)
      have hc2 := comp_any E1.out lb
      rw [HLB.out] at hc2
      have HC2 := Lib.hid hc2
      clear hc2
      go_wp2_with fail
      refine HC2.out.mono ?_
      rintro e w2 ⟨b2, v2, rfl, a2, n2⟩
      have b12 := b1.trans (b2.mono b1.size)
      have hc3 := comp_any (E1.out.below b2) sp
      rw [HSP.out] at hc3
      have HC3 := Lib.hid hc3
      have A2 := Lib.hid a2
      have N2 := Lib.hid n2
      obtain ⟨p2, c2, rfl⟩ := a2.form
      clear hc3 a2 n2 HC2
      go_wp2_with fail
      refine HC3.out.mono ?_
      rintro e w3 ⟨b3, v3, rfl, a3, n3⟩
      have A3 := Lib.hid a3
      obtain ⟨p3, c3, rfl⟩ := a3.form
      have b13 := b12.trans (b3.mono b12.size)
      have E3 := Lib.hid (HE.out.below b13)
      have HA3 := Lib.hid (awake_any E3.out)
      have hl : (compT (loopText Lib.itoa (txt s) a (a + k - 1))).2.2 ≠ 5 → (compT (lineText Lib.itoa (txt s) k a)).2.2 ≠ 5 → (compT (loopText Lib.itoa (txt s) a (a + k - 1))).2.2 ≠ 4 → _ := fun f5 g5 f4 => unrolled_law itoa_text (by rw [HSS.out]; omega) hWa hWb hk20 H4.out f5 g5 f4
      have HL := Lib.hid hl
      clear a3 n3 HC3 hl HLB HSP HE HSS H4
      generalize compT (loopText Lib.itoa (txt s) a (a + k - 1)) = F at *
      generalize compT (lineText Lib.itoa (txt s) k a) = G at *
      by_cases f5 : F.2.2 = 5
      · have x5 : (F.2.2 == 5) = true := beq_iff_eq.2 f5
        go_wp2_with fail
        refine HA3.out.mono ?_
        rintro e wz ⟨rfl, bz⟩
        go_wp2_with fail
        go_ret
        exact ⟨rfl, b13.trans (bz.mono b13.size)⟩
      have x5 : (F.2.2 == 5) = false := beq_eq_false_iff_ne.2 f5
      by_cases g5 : G.2.2 = 5
      · have y5 : (G.2.2 == 5) = true := beq_iff_eq.2 g5
        go_wp2_with fail
        refine HA3.out.mono ?_
        rintro e wz ⟨rfl, bz⟩
        go_wp2_with fail
        go_ret
        exact ⟨rfl, b13.trans (bz.mono b13.size)⟩
      have y5 : (G.2.2 == 5) = false := beq_eq_false_iff_ne.2 g5
      by_cases f4 : F.2.2 = 4
      · have x4 : (F.2.2 == 4) = true := beq_iff_eq.2 f4
        go_wp2_with fail
        refine HA3.out.mono ?_
        rintro e wz ⟨rfl, bz⟩
        go_wp2_with fail
        go_ret
        exact ⟨rfl, b13.trans (bz.mono b13.size)⟩
      have x4 : (F.2.2 == 4) = false := beq_eq_false_iff_ne.2 f4
      have hl := HL.out f5 g5 f4
      have dE : (F.2.2 == G.2.2) = true := beq_iff_eq.2 hl.1
      have a3' := A3.out
      have hcl : G.1.length = F.1.length := by rw [hl.2]
      rw [← hl.2] at a3'
      rw [hcl]
      have HS := Lib.hid (sameActs_eq (A2.out.below b3) a3' N2.out)
      clear a3' hcl hl A2 A3 HL f5 g5 f4 N2 HA3
      go_wp2_with fail
      refine HS.out.mono ?_
      rintro e w4 ⟨rfl, b4⟩
      have b14 := b13.trans (b4.mono b13.size)
      have HA4 := Lib.hid (awake_any (E3.out.below b4))
      go_wp2_with fail
      refine HA4.out.mono ?_
      rintro e w5 ⟨rfl, b5⟩
      go_wp2_with fail
      go_ret
      exact ⟨rfl, b14.trans (b5.mono b14.size)⟩
end Go.Proofs.YtddnmocoaahlfaaGreatDoor
