/-
  The contracts of the program's gap and nearer. Condition: numbers of at most 2^14 bits. The contract of the program's Best. Condition: numbers of at most 2^12 bits. The contract of the statements' apart. Condition: numbers of at most 8000 bits.
-/
import Derived.Test.YtppbhjhbaknidaaZq
set_option linter.unusedVariables false
set_option linter.unusedSimpArgs false

/-
  The contracts of the program's gap and nearer. Condition: numbers of at most 2^14 bits.
-/
set_option linter.unusedVariables false
set_option linter.unusedSimpArgs false
namespace Go.Proofs.Ytppbhjhbaknidaa
open Go.RowKit

theorem dst_lt {N D P Q L : Nat} (hN : N < P2 L) (hD : D < P2 L) (hP : P < P2 L) (hQ : Q < P2 L) : dst N D P Q < P2 (L + L) := by
  have a := mul_lt_P2 hN hQ
  have b := mul_lt_P2 hP hD
  unfold dst
  split <;> omega

set_option maxHeartbeats 4000000 in
set_option maxRecDepth 100000 in
theorem gap_any {w : World} {f vp vq : Value} {N D P Q : Nat} (hf : IsF w f N D) (hp : IsN w vp P) (hq : IsN w vq Q) (L : Nat) (hL : L ≤ 65536) (hN : N < P2 L) (hD : D < P2 L) (hP : P < P2 L) (hQ : Q < P2 L) :
    Calls Try.prog 134 #[f, vp, vq] w (RetNN w (dst N D P Q) (D * Q)) := by
  obtain ⟨ao, k, cap, ao2, k2, cap2, rfl, ia, ib, h0⟩ := hf.slice
  obtain ⟨hB, kf⟩ := prof w (.slice ao k cap) (.slice ao2 k2 cap2)
  replace hf := hf.below hB
  replace ia := ia.below hB
  replace hp := hp.below hB
  replace hq := hq.below hB
  have HN := Lib.hid hN
  have HD := Lib.hid hD
  have HP := Lib.hid hP
  have HQ := Lib.hid hQ
  have HA := Lib.hid (mul_lt_P2 hN hQ)
  have HB := Lib.hid (mul_lt_P2 hP hD)
  clear ib h0 hN hD hP hQ
  have c0 := kf.cell0
  have c1 := kf.cell1
  go_enter Try.func134, Try.ntmps134
  go_wp2_with fail
  clear c0 c1
  obtain ⟨wo, hw_⟩ : ∃ w_ : World, w_ = (w.alloc (.cells #[.slice ao k cap, .slice ao2 k2 cap2] 50)) := ⟨_, rfl⟩
  rw [← hw_] at hB kf hf ia hp hq ⊢
  clear hw_
  have c0 := kf.cell0
  have c1 := kf.cell1
  have lt0 := kf.lt
  go_region_held3 (fun w' => w'.cell? ⟨w.heap.size, 0, none⟩ = some (.slice ao k cap) ∧ w'.cell? ⟨w.heap.size, 1, none⟩ = some (.slice ao2 k2 cap2) ∧ Below wo.heap.size wo w')
    (first
      | exact ⟨c0, c1, (Below.refl _ _).drew⟩
      | (go_split_ands; exact ⟨by assumption, by assumption, by assumption⟩)
      | (go_split_ands; have hk := nextB (by assumption) bb; exact ⟨(hk.cell (p := ⟨w.heap.size, 0, none⟩) lt0).trans c0, (hk.cell (p := ⟨w.heap.size, 1, none⟩) lt0).trans c1, hk⟩))
    (first
      | (go_at_call 100; go_split_ands; (with_reducible refine (mul_any (ia.below (by assumption)) (hq.below (by assumption)) L (by omega) HN.out HQ.out).mono ?_); rintro e wq ⟨v1, rfl, i1, bb⟩)
      | (go_at_call 109; go_split_ands; (with_reducible refine (den_any (hf.below (by assumption)) L (by omega) HD.out).mono ?_); rintro e wq ⟨v3, rfl, i3, bb⟩; replace i1 := i1.below bb)
      | (go_at_call 100; go_split_ands; (with_reducible refine (mul_any (hp.below (by assumption)) i3 L (by omega) HP.out HD.out).mono ?_); rintro e wq ⟨v2, rfl, i2, bb⟩; replace i1 := i1.below bb))
  go_split_ands
  have b : Below wo.heap.size wo wq := by assumption
  obtain ⟨w1, hw_⟩ : ∃ w_ : World, w_ = wq := ⟨_, rfl⟩
  rw [← hw_] at b i1 i2 ⊢
  clear hw_
  clear c0 c1 lt0
  replace kf := kf.below b
  replace hf := hf.below b
  replace ia := ia.below b
  replace hp := hp.below b
  replace hq := hq.below b
  replace hB := nextB hB b
  clear b
  go_wp2_with fail
  refine (cmp_any i1 i2).mono ?_
  rintro e w2 ⟨rfl, b⟩
  replace kf := kf.below b
  replace hf := hf.below b
  replace ia := ia.below b
  replace hp := hp.below b
  replace hq := hq.below b
  replace i1 := i1.below b
  replace i2 := i2.below b
  replace hB := nextB hB b
  clear b
  by_cases hlt : N * Q < P * D
  · have HE := Lib.hid (show dst N D P Q = P * D - N * Q from if_pos hlt)
    have HLE := Lib.hid (Nat.le_of_lt hlt)
    rw [cmpI_lt hlt]
    clear hlt
    have c0 := kf.cell0
    have c1 := kf.cell1
    have lt0 := kf.lt
    go_wp2
    go_region_held3 (fun w' => w'.cell? ⟨w.heap.size, 0, none⟩ = some (.slice ao k cap) ∧ w'.cell? ⟨w.heap.size, 1, none⟩ = some (.slice ao2 k2 cap2) ∧ Below w2.heap.size w2 w')
      (first
        | exact ⟨c0, c1, (Below.refl _ _).drew⟩
        | (go_split_ands; exact ⟨by assumption, by assumption, by assumption⟩)
        | (go_split_ands; have hk := nextB (by assumption) bb; exact ⟨(hk.cell (p := ⟨w.heap.size, 0, none⟩) lt0).trans c0, (hk.cell (p := ⟨w.heap.size, 1, none⟩) lt0).trans c1, hk⟩))
      (first
        | (go_at_call 112; go_split_ands; (with_reducible refine (sub_any (i2.below (by assumption)) (i1.below (by assumption)) (L + L) (by omega) HB.out HLE.out).mono ?_); rintro e wq ⟨v4, rfl, i4, bb⟩)
        | (go_at_call 109; go_split_ands; (with_reducible refine (den_any (hf.below (by assumption)) L (by omega) HD.out).mono ?_); rintro e wq ⟨v5, rfl, i5, bb⟩; replace i4 := i4.below bb)
        | (go_at_call 100; go_split_ands; (with_reducible refine (mul_any i5 (hq.below (by assumption)) L (by omega) HD.out HQ.out).mono ?_); rintro e wq ⟨v6, rfl, i6, bb⟩; replace i4 := i4.below bb))
    go_split_ands
    have b : Below w2.heap.size w2 wq := by assumption
    go_wp2
    go_ret2
    exact ⟨_, _, rfl, by rw [HE.out]; exact i4, i6, nextB hB b⟩
  · have HE := Lib.hid (show dst N D P Q = N * Q - P * D from if_neg hlt)
    have HLE := Lib.hid (Nat.not_lt.1 hlt)
    have hz : decide (cmpI (N * Q) (P * D) < 0) = false := decide_eq_false (by have := cmpI_ge (Nat.not_lt.1 hlt); omega)
    clear hlt
    have c0 := kf.cell0
    have c1 := kf.cell1
    have lt0 := kf.lt
    go_wp2
    go_region_held3 (fun w' => w'.cell? ⟨w.heap.size, 0, none⟩ = some (.slice ao k cap) ∧ w'.cell? ⟨w.heap.size, 1, none⟩ = some (.slice ao2 k2 cap2) ∧ Below w2.heap.size w2 w')
      (first
        | exact ⟨c0, c1, (Below.refl _ _).drew⟩
        | (go_split_ands; exact ⟨by assumption, by assumption, by assumption⟩)
        | (go_split_ands; have hk := nextB (by assumption) bb; exact ⟨(hk.cell (p := ⟨w.heap.size, 0, none⟩) lt0).trans c0, (hk.cell (p := ⟨w.heap.size, 1, none⟩) lt0).trans c1, hk⟩))
      (first
        | (go_at_call 112; go_split_ands; (with_reducible refine (sub_any (i1.below (by assumption)) (i2.below (by assumption)) (L + L) (by omega) HA.out HLE.out).mono ?_); rintro e wq ⟨v4, rfl, i4, bb⟩)
        | (go_at_call 109; go_split_ands; (with_reducible refine (den_any (hf.below (by assumption)) L (by omega) HD.out).mono ?_); rintro e wq ⟨v5, rfl, i5, bb⟩; replace i4 := i4.below bb)
        | (go_at_call 100; go_split_ands; (with_reducible refine (mul_any i5 (hq.below (by assumption)) L (by omega) HD.out HQ.out).mono ?_); rintro e wq ⟨v6, rfl, i6, bb⟩; replace i4 := i4.below bb))
    go_split_ands
    have b : Below w2.heap.size w2 wq := by assumption
    go_wp2
    go_ret2
    exact ⟨_, _, rfl, by rw [HE.out]; exact i4, i6, nextB hB b⟩

theorem near_le {P Q R S : Nat} (hQ : 0 < Q) (hQS : Q = S) (h : P * S ≤ R * Q) : P ≤ R := by
  subst hQS
  exact Nat.le_of_mul_le_mul_right h hQ
theorem near_le2 {P Q R S : Nat} (hQ : 0 < Q) (hQS : Q = S) (h : R * Q ≤ P * S) : R ≤ P := by
  subst hQS
  exact Nat.le_of_mul_le_mul_right h hQ

/-- What nearer returns: the better one of two candidates. -/
def RetNear (w : World) (N D P Q R S : Nat) (e : Ending) (w' : World) : Prop := ∃ r s, Hid ((r = P ∧ s = Q ∧ Bt N D P Q R S) ∨ (r = R ∧ s = S ∧ Bt N D R S P Q)) ∧ RetF w r s e w'

set_option maxHeartbeats 8000000 in
set_option maxRecDepth 100000 in
theorem nearer_any {w : World} {f vp vq vr vs : Value} {N D P Q R S : Nat} (hf : IsF w f N D) (hp : IsN w vp P) (hq : IsN w vq Q) (hr : IsN w vr R) (hs : IsN w vs S) (hQ0 : 0 < Q) (hS0 : 0 < S) (hg1 : Nat.gcd P Q = 1) (hg2 : Nat.gcd R S = 1)
    (L : Nat) (hL : L ≤ 65536) (hN : N < P2 L) (hD : D < P2 L) (hP : P < P2 L) (hQ : Q < P2 L) (hR : R < P2 L) (hS : S < P2 L) :
    Calls Try.prog 124 #[f, vp, vq, vr, vs] w (RetNear w N D P Q R S) := by
  obtain ⟨ao, k, cap, ao2, k2, cap2, rfl, ia, ib, h0⟩ := hf.slice
  obtain ⟨hB, kf⟩ := prof w (.slice ao k cap) (.slice ao2 k2 cap2)
  have hz : (w.alloc (.cells #[.slice ao k cap, .slice ao2 k2 cap2] 50)).heap.size = w.heap.size + 1 := by simp
  obtain ⟨hC, kr⟩ := prof (w.alloc (.cells #[.slice ao k cap, .slice ao2 k2 cap2] 50)) (.slice none 0 0) (.slice none 0 0)
  rw [hz] at kr
  replace kf := kf.below hC
  replace hB := nextB hB hC
  have HM := Lib.hid (show cmpI (dst N D P Q * (D * S)) (dst N D R S * (D * Q)) = cmpI (dst N D P Q * S) (dst N D R S * Q) by
    rw [show dst N D P Q * (D * S) = D * (dst N D P Q * S) from Nat.mul_left_comm .., show dst N D R S * (D * Q) = D * (dst N D R S * Q) from Nat.mul_left_comm .., cmpI_mul h0])
  clear hz hC ia ib h0
  replace hf := hf.below hB
  replace hp := hp.below hB
  replace hq := hq.below hB
  replace hr := hr.below hB
  replace hs := hs.below hB
  have H1 := Lib.hid (fun w_ (a : IsN w_ vp P) (b : IsN w_ vq Q) => lowest_any a b hQ0 L (by omega) hP hQ)
  rw [hg1, Nat.div_one, Nat.div_one] at H1
  have H2 := Lib.hid (fun w_ (a : IsN w_ vr R) (b : IsN w_ vs S) => lowest_any a b hS0 L (by omega) hR hS)
  rw [hg2, Nat.div_one, Nat.div_one] at H2
  have HG1 := Lib.hid (fun w_ (a : IsF w_ (.agg #[.slice ao k cap, .slice ao2 k2 cap2]) N D) (b : IsN w_ vp P) (c : IsN w_ vq Q) => gap_any a b c L hL hN hD hP hQ)
  have HG2 := Lib.hid (fun w_ (a : IsF w_ (.agg #[.slice ao k cap, .slice ao2 k2 cap2]) N D) (b : IsN w_ vr R) (c : IsN w_ vs S) => gap_any a b c L hL hN hD hR hS)
  have HX1 := Lib.hid (dst_lt hN hD hP hQ)
  have HX2 := Lib.hid (dst_lt hN hD hR hS)
  have HY1 := Lib.hid (mul_lt_P2 hD hQ)
  have HY2 := Lib.hid (mul_lt_P2 hD hS)
  have HP := Lib.hid hP
  have HQ := Lib.hid hQ
  have HR := Lib.hid hR
  have HS := Lib.hid hS
  have HQ0 := Lib.hid hQ0
  clear hg1 hg2 hN hD hP hQ hR hS hQ0 hS0
  have c0 := kf.cell0
  have c1 := kf.cell1
  go_enter Try.func124, Try.ntmps124
  go_wp2_with fail
  clear c0 c1
  obtain ⟨wo, hw_⟩ : ∃ w_ : World, w_ = ((w.alloc (.cells #[.slice ao k cap, .slice ao2 k2 cap2] 50)).alloc (.cells #[.slice none 0 0, .slice none 0 0] 50)) := ⟨_, rfl⟩
  rw [← hw_] at hB kf kr hf hp hq hr hs ⊢
  clear hw_
  refine (HG1.out _ hf hp hq).mono ?_
  rintro e w1 ⟨v1, v2, rfl, i1, i2, b⟩
  replace hf := hf.below b
  replace kf := kf.below b
  replace kr := kr.below b
  replace hp := hp.below b
  replace hq := hq.below b
  replace hr := hr.below b
  replace hs := hs.below b
  replace hB := nextB hB b
  clear b
  have c0 := kf.cell0
  have c1 := kf.cell1
  go_wp2_with fail
  clear c0 c1
  refine (HG2.out _ hf hr hs).mono ?_
  rintro e w2 ⟨v3, v4, rfl, i3, i4, b⟩
  replace hf := hf.below b
  replace kf := kf.below b
  replace kr := kr.below b
  replace hp := hp.below b
  replace hq := hq.below b
  replace hr := hr.below b
  replace hs := hs.below b
  replace i1 := i1.below b
  replace i2 := i2.below b
  replace hB := nextB hB b
  clear b
  go_wp2_with fail
  refine (mul_any i1 i4 (L + L) (by omega) HX1.out HY2.out).mono ?_
  rintro e w3 ⟨v5, rfl, i5, b⟩
  replace hf := hf.below b
  replace kf := kf.below b
  replace kr := kr.below b
  replace hp := hp.below b
  replace hq := hq.below b
  replace hr := hr.below b
  replace hs := hs.below b
  replace i2 := i2.below b
  replace i3 := i3.below b
  replace hB := nextB hB b
  clear b
  clear i1 i4
  go_wp2_with fail
  refine (mul_any i3 i2 (L + L) (by omega) HX2.out HY1.out).mono ?_
  rintro e w4 ⟨v6, rfl, i6, b⟩
  replace hf := hf.below b
  replace kf := kf.below b
  replace kr := kr.below b
  replace hp := hp.below b
  replace hq := hq.below b
  replace hr := hr.below b
  replace hs := hs.below b
  replace i5 := i5.below b
  replace hB := nextB hB b
  clear b
  clear i3 i2
  go_wp2_with fail
  refine (cmp_any i5 i6).mono ?_
  rintro e w5 ⟨rfl, b⟩
  replace hf := hf.below b
  replace kf := kf.below b
  replace kr := kr.below b
  replace hp := hp.below b
  replace hq := hq.below b
  replace hr := hr.below b
  replace hs := hs.below b
  replace hB := nextB hB b
  clear b
  clear i5 i6
  rw [HM.out]
  clear HM HX1 HX2 HY1 HY2 HG1 HG2
  rcases cmpI_cases (dst N D P Q * S) (dst N D R S * Q) with ⟨h1, e1⟩ | ⟨h1, e1⟩ | ⟨h1, e1⟩
  · rw [e1]
    have H := Lib.hid h1
    clear h1 e1
    go_wp2_with fail
    refine (H1.out _ hp hq).mono ?_
    rintro e wq ⟨v8, rfl, i8, b⟩
    obtain ⟨ao7, k7, cap7, ao8, k8, cap8, rfl, i9, i10, h7⟩ := i8.slice
    replace kr := kr.below b
    replace hB := nextB hB b
    clear b
    have c0 := kr.cell0
    have c1 := kr.cell1
    have f0 := kr.free0
    have f1 := kr.free1
    have kg := kr.set0 (.slice ao7 k7 cap7)
    have d1 := kg.cell1
    have g1 := kg.free1
    have d0 := kg.cell0
    go_wp2
    refine bodyPost_ret (v := .agg #[.slice ao7 k7 cap7, .slice ao8 k8 cap8]) (by simp [results, Try.results124, go_sem, c0, c1, d0, d1]) rfl ⟨_, _, Lib.hid (.inl ⟨rfl, rfl, .inl H.out⟩), _, rfl, IsF.of ((i9.setF kr NoInt.two 0 _).setF kg NoInt.two 1 _) ((i10.setF kr NoInt.two 0 _).setF kg NoInt.two 1 _) h7, (hB.setCell (by simp <;> omega) _).setCell (by simp <;> omega) _⟩
  · rw [e1]
    have H := Lib.hid h1
    clear h1 e1
    go_wp2_with fail
    refine (cmp_any hq hs).mono ?_
    rintro e w6 ⟨rfl, b⟩
    replace hf := hf.below b
    replace kf := kf.below b
    replace kr := kr.below b
    replace hp := hp.below b
    replace hq := hq.below b
    replace hr := hr.below b
    replace hs := hs.below b
    replace hB := nextB hB b
    clear b
    rcases cmpI_cases Q S with ⟨h2, e2⟩ | ⟨h2, e2⟩ | ⟨h2, e2⟩
    · rw [e2]
      have H_ := Lib.hid h2
      clear h2 e2
      go_wp2_with fail
      refine (H1.out _ hp hq).mono ?_
      rintro e wq ⟨v8, rfl, i8, b⟩
      obtain ⟨ao7, k7, cap7, ao8, k8, cap8, rfl, i9, i10, h7⟩ := i8.slice
      replace kr := kr.below b
      replace hB := nextB hB b
      clear b
      have c0 := kr.cell0
      have c1 := kr.cell1
      have f0 := kr.free0
      have f1 := kr.free1
      have kg := kr.set0 (.slice ao7 k7 cap7)
      have d1 := kg.cell1
      have g1 := kg.free1
      have d0 := kg.cell0
      go_wp2
      refine bodyPost_ret (v := .agg #[.slice ao7 k7 cap7, .slice ao8 k8 cap8]) (by simp [results, Try.results124, go_sem, c0, c1, d0, d1]) rfl ⟨_, _, Lib.hid (.inl ⟨rfl, rfl, .inr ⟨H.out, .inl H_.out⟩⟩), _, rfl, IsF.of ((i9.setF kr NoInt.two 0 _).setF kg NoInt.two 1 _) ((i10.setF kr NoInt.two 0 _).setF kg NoInt.two 1 _) h7, (hB.setCell (by simp <;> omega) _).setCell (by simp <;> omega) _⟩
    · rw [e2]
      have H_ := Lib.hid h2
      clear h2 e2
      go_wp2_with fail
      refine (mul_any hp hs L (by omega) HP.out HS.out).mono ?_
      rintro e w7 ⟨v9, rfl, i9, b⟩
      replace hf := hf.below b
      replace kf := kf.below b
      replace kr := kr.below b
      replace hp := hp.below b
      replace hq := hq.below b
      replace hr := hr.below b
      replace hs := hs.below b
      replace hB := nextB hB b
      clear b
      go_wp2_with fail
      refine (mul_any hr hq L (by omega) HR.out HQ.out).mono ?_
      rintro e w8 ⟨v10, rfl, i10, b⟩
      replace hf := hf.below b
      replace kf := kf.below b
      replace kr := kr.below b
      replace hp := hp.below b
      replace hq := hq.below b
      replace hr := hr.below b
      replace hs := hs.below b
      replace i9 := i9.below b
      replace hB := nextB hB b
      clear b
      go_wp2_with fail
      refine (cmp_any i9 i10).mono ?_
      rintro e w9 ⟨rfl, b⟩
      replace hf := hf.below b
      replace kf := kf.below b
      replace kr := kr.below b
      replace hp := hp.below b
      replace hq := hq.below b
      replace hr := hr.below b
      replace hs := hs.below b
      replace hB := nextB hB b
      clear b
      clear i9 i10
      rcases cmpI_cases (P * S) (R * Q) with ⟨h3, e3⟩ | ⟨h3, e3⟩ | ⟨h3, e3⟩
      · rw [e3]
        have H9 := Lib.hid (Nat.le_of_lt h3)
        clear h3 e3
        go_wp2_with fail
        refine (H1.out _ hp hq).mono ?_
        rintro e wq ⟨v8, rfl, i8, b⟩
        obtain ⟨ao7, k7, cap7, ao8, k8, cap8, rfl, i9, i10, h7⟩ := i8.slice
        replace kr := kr.below b
        replace hB := nextB hB b
        clear b
        have c0 := kr.cell0
        have c1 := kr.cell1
        have f0 := kr.free0
        have f1 := kr.free1
        have kg := kr.set0 (.slice ao7 k7 cap7)
        have d1 := kg.cell1
        have g1 := kg.free1
        have d0 := kg.cell0
        go_wp2
        refine bodyPost_ret (v := .agg #[.slice ao7 k7 cap7, .slice ao8 k8 cap8]) (by simp [results, Try.results124, go_sem, c0, c1, d0, d1]) rfl ⟨_, _, Lib.hid (.inl ⟨rfl, rfl, .inr ⟨H.out, .inr ⟨H_.out, near_le HQ0.out H_.out H9.out⟩⟩⟩), _, rfl, IsF.of ((i9.setF kr NoInt.two 0 _).setF kg NoInt.two 1 _) ((i10.setF kr NoInt.two 0 _).setF kg NoInt.two 1 _) h7, (hB.setCell (by simp <;> omega) _).setCell (by simp <;> omega) _⟩
      · rw [e3]
        have H9 := Lib.hid (Nat.le_of_eq h3)
        clear h3 e3
        go_wp2_with fail
        refine (H1.out _ hp hq).mono ?_
        rintro e wq ⟨v8, rfl, i8, b⟩
        obtain ⟨ao7, k7, cap7, ao8, k8, cap8, rfl, i9, i10, h7⟩ := i8.slice
        replace kr := kr.below b
        replace hB := nextB hB b
        clear b
        have c0 := kr.cell0
        have c1 := kr.cell1
        have f0 := kr.free0
        have f1 := kr.free1
        have kg := kr.set0 (.slice ao7 k7 cap7)
        have d1 := kg.cell1
        have g1 := kg.free1
        have d0 := kg.cell0
        go_wp2
        refine bodyPost_ret (v := .agg #[.slice ao7 k7 cap7, .slice ao8 k8 cap8]) (by simp [results, Try.results124, go_sem, c0, c1, d0, d1]) rfl ⟨_, _, Lib.hid (.inl ⟨rfl, rfl, .inr ⟨H.out, .inr ⟨H_.out, near_le HQ0.out H_.out H9.out⟩⟩⟩), _, rfl, IsF.of ((i9.setF kr NoInt.two 0 _).setF kg NoInt.two 1 _) ((i10.setF kr NoInt.two 0 _).setF kg NoInt.two 1 _) h7, (hB.setCell (by simp <;> omega) _).setCell (by simp <;> omega) _⟩
      · rw [e3]
        have H9 := Lib.hid (Nat.le_of_lt h3)
        clear h3 e3
        go_wp2_with fail
        refine (H2.out _ hr hs).mono ?_
        rintro e wq ⟨v8, rfl, i8, b⟩
        obtain ⟨ao7, k7, cap7, ao8, k8, cap8, rfl, i9, i10, h7⟩ := i8.slice
        replace kr := kr.below b
        replace hB := nextB hB b
        clear b
        have c0 := kr.cell0
        have c1 := kr.cell1
        have f0 := kr.free0
        have f1 := kr.free1
        have kg := kr.set0 (.slice ao7 k7 cap7)
        have d1 := kg.cell1
        have g1 := kg.free1
        have d0 := kg.cell0
        go_wp2
        refine bodyPost_ret (v := .agg #[.slice ao7 k7 cap7, .slice ao8 k8 cap8]) (by simp [results, Try.results124, go_sem, c0, c1, d0, d1]) rfl ⟨_, _, Lib.hid (.inr ⟨rfl, rfl, .inr ⟨H.out.symm, .inr ⟨H_.out.symm, near_le2 HQ0.out H_.out H9.out⟩⟩⟩), _, rfl, IsF.of ((i9.setF kr NoInt.two 0 _).setF kg NoInt.two 1 _) ((i10.setF kr NoInt.two 0 _).setF kg NoInt.two 1 _) h7, (hB.setCell (by simp <;> omega) _).setCell (by simp <;> omega) _⟩
    · rw [e2]
      have H_ := Lib.hid h2
      clear h2 e2
      go_wp2_with fail
      refine (H2.out _ hr hs).mono ?_
      rintro e wq ⟨v8, rfl, i8, b⟩
      obtain ⟨ao7, k7, cap7, ao8, k8, cap8, rfl, i9, i10, h7⟩ := i8.slice
      replace kr := kr.below b
      replace hB := nextB hB b
      clear b
      have c0 := kr.cell0
      have c1 := kr.cell1
      have f0 := kr.free0
      have f1 := kr.free1
      have kg := kr.set0 (.slice ao7 k7 cap7)
      have d1 := kg.cell1
      have g1 := kg.free1
      have d0 := kg.cell0
      go_wp2
      refine bodyPost_ret (v := .agg #[.slice ao7 k7 cap7, .slice ao8 k8 cap8]) (by simp [results, Try.results124, go_sem, c0, c1, d0, d1]) rfl ⟨_, _, Lib.hid (.inr ⟨rfl, rfl, .inr ⟨H.out.symm, .inl H_.out⟩⟩), _, rfl, IsF.of ((i9.setF kr NoInt.two 0 _).setF kg NoInt.two 1 _) ((i10.setF kr NoInt.two 0 _).setF kg NoInt.two 1 _) h7, (hB.setCell (by simp <;> omega) _).setCell (by simp <;> omega) _⟩
  · rw [e1]
    have H := Lib.hid h1
    clear h1 e1
    go_wp2_with fail
    refine (H2.out _ hr hs).mono ?_
    rintro e wq ⟨v8, rfl, i8, b⟩
    obtain ⟨ao7, k7, cap7, ao8, k8, cap8, rfl, i9, i10, h7⟩ := i8.slice
    replace kr := kr.below b
    replace hB := nextB hB b
    clear b
    have c0 := kr.cell0
    have c1 := kr.cell1
    have f0 := kr.free0
    have f1 := kr.free1
    have kg := kr.set0 (.slice ao7 k7 cap7)
    have d1 := kg.cell1
    have g1 := kg.free1
    have d0 := kg.cell0
    go_wp2
    refine bodyPost_ret (v := .agg #[.slice ao7 k7 cap7, .slice ao8 k8 cap8]) (by simp [results, Try.results124, go_sem, c0, c1, d0, d1]) rfl ⟨_, _, Lib.hid (.inr ⟨rfl, rfl, .inl H.out⟩), _, rfl, IsF.of ((i9.setF kr NoInt.two 0 _).setF kg NoInt.two 1 _) ((i10.setF kr NoInt.two 0 _).setF kg NoInt.two 1 _) h7, (hB.setCell (by simp <;> omega) _).setCell (by simp <;> omega) _⟩

end Go.Proofs.Ytppbhjhbaknidaa

/-
  The contract of the program's Best. Condition: numbers of at most 2^12 bits.
-/
set_option linter.unusedVariables false
set_option linter.unusedSimpArgs false
namespace Go.Proofs.Ytppbhjhbaknidaa
open Go.RowKit

theorem bs_call {w w1 w2 : World} {A B : Value} (h : w1.cell? ⟨w.heap.size, 0, none⟩ = some A ∧ w1.cell? ⟨w.heap.size, 1, none⟩ = some B ∧ (∃ s t, Fx w1 (w.heap.size + 1) s t ∧ NoInt #[s, t]) ∧ w.heap.size < w1.heap.size ∧ Below w.heap.size w w1) (bb : Below w1.heap.size w1 w2) : w2.cell? ⟨w.heap.size, 0, none⟩ = some A ∧ w2.cell? ⟨w.heap.size, 1, none⟩ = some B ∧ (∃ s t, Fx w2 (w.heap.size + 1) s t ∧ NoInt #[s, t]) ∧ w.heap.size < w2.heap.size ∧ Below w.heap.size w w2 := by
  obtain ⟨h1, h2, h5, h6, h7⟩ := h
  exact ⟨(bb.cell (p := ⟨w.heap.size, 0, none⟩) h6).trans h1, (bb.cell (p := ⟨w.heap.size, 1, none⟩) h6).trans h2, fx_next h5 bb, Nat.lt_of_lt_of_le h6 bb.size, nextB h7 bb⟩
theorem bs_store {w w1 : World} {A B s t : Value} (u v : Value) (h : w1.cell? ⟨w.heap.size, 0, none⟩ = some A ∧ w1.cell? ⟨w.heap.size, 1, none⟩ = some B ∧ (∃ s t, Fx w1 (w.heap.size + 1) s t ∧ NoInt #[s, t]) ∧ w.heap.size < w1.heap.size ∧ Below w.heap.size w w1) (kx : Fx w1 (w.heap.size + 1) s t) (hn : NoInt #[u, v]) : ((w1.setCell ⟨w.heap.size + 1, 0, none⟩ u).setCell ⟨w.heap.size + 1, 1, none⟩ v).cell? ⟨w.heap.size, 0, none⟩ = some A ∧ ((w1.setCell ⟨w.heap.size + 1, 0, none⟩ u).setCell ⟨w.heap.size + 1, 1, none⟩ v).cell? ⟨w.heap.size, 1, none⟩ = some B ∧ (∃ s t, Fx ((w1.setCell ⟨w.heap.size + 1, 0, none⟩ u).setCell ⟨w.heap.size + 1, 1, none⟩ v) (w.heap.size + 1) s t ∧ NoInt #[s, t]) ∧ w.heap.size < ((w1.setCell ⟨w.heap.size + 1, 0, none⟩ u).setCell ⟨w.heap.size + 1, 1, none⟩ v).heap.size ∧ Below w.heap.size w ((w1.setCell ⟨w.heap.size + 1, 0, none⟩ u).setCell ⟨w.heap.size + 1, 1, none⟩ v) := by
  obtain ⟨h1, h2, h5, h6, h7⟩ := h
  exact ⟨(cell_set_ne (by omega)).trans ((cell_set_ne (by omega)).trans h1), (cell_set_ne (by omega)).trans ((cell_set_ne (by omega)).trans h2),
    ⟨_, _, (kx.set0 _).set1 _, hn⟩, Nat.lt_of_lt_of_eq h6 (by simp), (h7.setCell (show w.heap.size ≤ w.heap.size + 1 by omega) _).setCell (show w.heap.size ≤ w.heap.size + 1 by omega) _⟩

theorem IsBest.self {N D M : Nat} (hD : 0 < D) (hM : D ≤ M) (hg : Nat.gcd N D = 1) : IsBest N D M N D := by
  have h0 : dst N D N D = 0 := by unfold dst; rw [if_neg (Nat.lt_irrefl _), Nat.sub_self]
  refine ⟨hD, hM, hg, fun r' s' h1 h2 => ?_⟩
  unfold Bt
  rw [h0, Nat.zero_mul]
  rcases Nat.eq_zero_or_pos (dst N D r' s') with h | h
  · refine .inr ⟨by rw [h, Nat.zero_mul], ?_⟩
    have e : N * s' = r' * D := by unfold dst at h; split at h <;> omega
    have hd : D ∣ s' := Nat.Coprime.dvd_of_dvd_mul_left (k := D) (n := s') (m := N) (by rw [Nat.Coprime, Nat.gcd_comm]; exact hg) ⟨r', by rw [e, Nat.mul_comm]⟩
    have hle := Nat.le_of_dvd h1 hd
    rcases Nat.lt_or_ge D s' with g | g
    · exact .inl g
    · have : D = s' := by omega
      subst this
      exact .inr ⟨rfl, Nat.le_of_eq (Nat.eq_of_mul_eq_mul_right hD e)⟩
  · exact .inl (Nat.mul_pos h hD)

/-- What Best returns. -/
def RetBest (w : World) (N D M : Nat) (e : Ending) (w' : World) : Prop := ∃ r s, Hid (IsBest N D M r s ∧ r ≤ N + 1) ∧ RetF0 w r s e w'

/-- The bounds of a round. -/
structure BestBd (N D M L lp lq p q num den : Nat) : Prop where
  flp : lp < P2 (L + 1)
  flq : lq < P2 (L + 1)
  fp : p < P2 (L + 1)
  fq : q < P2 (L + 1)
  fnum : num < P2 (L + 1)
  fa : num / den < P2 (L + 1)
  faq : num / den * q < P2 (L + 1 + (L + 1))
  fap : num / den * p < P2 (L + 1 + (L + 1))
  flq2 : lq < P2 (L + 1 + (L + 1))
  flp2 : lp < P2 (L + 1 + (L + 1))
  ft : (M - lq) / q < P2 (L + 1)
  ftp : (M - lq) / q * p < P2 (L + 1 + (L + 1))
  ftq : (M - lq) / q * q < P2 (L + 1 + (L + 1))
  fm : M < P2 (L + 1)
  flqm : lq ≤ M
theorem one_up {n L : Nat} (h : n < P2 L) : n + 1 < P2 (L + 1) := by have := P2_succ L; omega
theorem bestBd {N D M L lp lq p q num den : Nat} (h : Conv N D M lp lq p q num den) (hN : N < P2 L) (hD : D < P2 L) (hM : M < D) : BestBd N D M L lp lq p q num den := by
  have h1 := one_up hN
  have a1 := h.lp_le
  have a2 := h.lq_le
  have a3 := h.p_le
  have a4 := h.q_le
  have a5 := h.num_le
  have h2 := add_lt_P2 hN hD
  have h3 : D < P2 (L + 1) := lt_P2_mono hD (by omega)
  have b1 : lp < P2 (L + 1) := by omega
  have b2 : lq < P2 (L + 1) := by omega
  have b3 : p < P2 (L + 1) := by omega
  have b4 : q < P2 (L + 1) := by omega
  have b5 : num < P2 (L + 1) := by omega
  have b6 : num / den < P2 (L + 1) := Nat.lt_of_le_of_lt (Nat.div_le_self _ _) b5
  have b7 : M < P2 (L + 1) := by omega
  have b8 : (M - lq) / q < P2 (L + 1) := Nat.lt_of_le_of_lt (Nat.div_le_self _ _) (by omega)
  exact ⟨b1, b2, b3, b4, b5, b6, mul_lt_P2 b6 b4, mul_lt_P2 b6 b3, lt_P2_mono b2 (by omega), lt_P2_mono b1 (by omega), b8, mul_lt_P2 b8 b3, mul_lt_P2 b8 b4, b7, a2⟩

set_option maxHeartbeats 1000000 in
set_option maxRecDepth 100000 in
theorem Best_arg {w : World} {f : Value} {N D : Nat} (hf : IsF w f N D) (most : Int) (hm : most < 1) (hm2 : -9223372036854775808 ≤ most) :
    Calls Try.prog 93 #[f, .int .i64 most] w (RetFE w 0 1 2) := by
  obtain ⟨ao, k, cap, ao2, k2, cap2, rfl, ia, ib, h0⟩ := hf.slice
  obtain ⟨hB, kf⟩ := prof w (.slice ao k cap) (.slice ao2 k2 cap2)
  have hz : (w.alloc (.cells #[.slice ao k cap, .slice ao2 k2 cap2] 50)).heap.size = w.heap.size + 1 := by simp
  obtain ⟨hC, kr⟩ := prof (w.alloc (.cells #[.slice ao k cap, .slice ao2 k2 cap2] 50)) (.slice none 0 0) (.slice none 0 0)
  rw [hz] at kr
  replace hB := nextB hB hC
  clear hz hC ia ib h0 kf
  have c0 := kr.cell0
  have c1 := kr.cell1
  have f0 := kr.free0
  have f1 := kr.free1
  have kg := kr.set0 (.slice none 0 0)
  have d1 := kg.cell1
  have g1 := kg.free1
  have d0 := kg.cell0
  go_enter Try.func93, Try.ntmps93
  go_wp2
  refine bodyPost_ret (v := .tuple #[.agg #[.slice none 0 0, .slice none 0 0], .int .i64 (2 : Nat)]) (by simp [results, Try.results93, go_sem, c0, c1, d0, d1]) rfl ⟨_, rfl, IsF.zero _, hB⟩

theorem best_le {r s P Q R S N : Nat} {X Y : Prop} (h : (r = P ∧ s = Q ∧ X) ∨ (r = R ∧ s = S ∧ Y)) (h1 : P ≤ N + 1) (h2 : R ≤ N) : r ≤ N + 1 := by
  rcases h with ⟨rfl, -, -⟩ | ⟨rfl, -, -⟩ <;> omega

set_option maxHeartbeats 16000000 in
set_option maxRecDepth 100000 in
theorem Best_any {w : World} {f : Value} {N D M : Nat} (hf : IsF w f N D) (hg : Nat.gcd N D = 1) (hM1 : 1 ≤ M) (hM2 : M < 9223372036854775808) (L : Nat) (hL : L ≤ 32768) (hN : N < P2 L) (hD : D < P2 L) :
    Calls Try.prog 93 #[f, .int .i64 M] w (RetBest w N D M) := by
  obtain ⟨ao, k, cap, ao2, k2, cap2, rfl, ia, ib, h0⟩ := hf.slice
  obtain ⟨hB, kf⟩ := prof w (.slice ao k cap) (.slice ao2 k2 cap2)
  have hz : (w.alloc (.cells #[.slice ao k cap, .slice ao2 k2 cap2] 50)).heap.size = w.heap.size + 1 := by simp
  obtain ⟨hC, kr⟩ := prof (w.alloc (.cells #[.slice ao k cap, .slice ao2 k2 cap2] 50)) (.slice none 0 0) (.slice none 0 0)
  rw [hz] at kr
  replace kf := kf.below hC
  replace hB := nextB hB hC
  replace hf := hf.below hB
  replace ia := ia.below hB
  replace ib := ib.below hB
  clear hz hC
  have HG := Lib.hid hg
  have HM1 := Lib.hid hM1
  have HN := Lib.hid hN
  have HD := Lib.hid hD
  have H0 := Lib.hid h0
  have hd1 : decide ((M : Int) < 1) = false := decide_eq_false (by omega)
  have hwr : IntKind.u64.wrap (M : Int) = M := IntWalk.u64_in _ (by omega)
  have HW := Lib.hid (fun w_ => words_any (M : Int) w_ (by omega) (by omega))
  rw [Int.toNat_natCast] at HW
  have HW1 := Lib.hid (fun w_ => words_any 1 w_ (by omega) (by omega))
  rw [show (1 : Int).toNat = 1 from rfl] at HW1
  clear hg hM1 hN hD h0
  go_enter Try.func93, Try.ntmps93
  go_wp2_with fail
  obtain ⟨wo, hw_⟩ : ∃ w_ : World, w_ = ((w.alloc (.cells #[.slice ao k cap, .slice ao2 k2 cap2] 50)).alloc (.cells #[.slice none 0 0, .slice none 0 0] 50)) := ⟨_, rfl⟩
  rw [← hw_] at hB kf kr hf ia ib ⊢
  clear hw_
  clear hd1 hwr
  refine (HW.out _).mono ?_
  rintro e w1 ⟨vm, rfl, im, b⟩
  clear HW
  replace hf := hf.below b
  replace kf := kf.below b
  replace kr := kr.below b
  replace ia := ia.below b
  replace ib := ib.below b
  replace hB := nextB hB b
  clear b
  have c0 := kf.cell0
  have c1 := kf.cell1
  go_wp2_with fail
  clear c0 c1
  refine (den_any hf L (by omega) HD.out).mono ?_
  rintro e w2 ⟨vd, rfl, id, b⟩
  replace hf := hf.below b
  replace kf := kf.below b
  replace kr := kr.below b
  replace ia := ia.below b
  replace ib := ib.below b
  replace im := im.below b
  replace hB := nextB hB b
  clear b
  go_wp2_with fail
  refine (cmp_any id im).mono ?_
  rintro e w3 ⟨rfl, b⟩
  replace hf := hf.below b
  replace kf := kf.below b
  replace kr := kr.below b
  replace ia := ia.below b
  replace ib := ib.below b
  replace im := im.below b
  replace hB := nextB hB b
  clear b
  clear id
  by_cases hDM : D ≤ M
  · have hz : decide (cmpI D M ≤ 0) = true := decide_eq_true (cmpI_np.2 hDM)
    have HDM := Lib.hid hDM
    clear hDM
    have a0 := kf.cell0
    have a1 := kf.cell1
    have c0 := kr.cell0
    have c1 := kr.cell1
    have f0 := kr.free0
    have f1 := kr.free1
    have kg := kr.set0 (.slice ao k cap)
    have d1 := kg.cell1
    have g1 := kg.free1
    have d0 := kg.cell0
    go_wp2
    refine bodyPost_ret (v := .tuple #[.agg #[.slice ao k cap, .slice ao2 k2 cap2], .int .i64 0]) (by simp [results, Try.results93, go_sem, c0, c1, d0, d1]) rfl ⟨N, D, Lib.hid ⟨IsBest.self H0.out HDM.out HG.out, Nat.le_succ _⟩, _, rfl, IsF.of ((ia.setF kr NoInt.two 0 _).setF kg NoInt.two 1 _) ((ib.setF kr NoInt.two 0 _).setF kg NoInt.two 1 _) H0.out, (hB.setCell (by simp <;> omega) _).setCell (by simp <;> omega) _⟩
  · have hz : decide (cmpI D M ≤ 0) = false := decide_eq_false (fun h => hDM (cmpI_np.1 h))
    have HDM := Lib.hid (show M < D by omega)
    clear hDM ib
    go_wp2_with fail
    clear hz
    refine (HW1.out _).mono ?_
    rintro e w4 ⟨v1, rfl, i1, b⟩
    replace hf := hf.below b
    replace kf := kf.below b
    replace kr := kr.below b
    replace ia := ia.below b
    replace im := im.below b
    replace hB := nextB hB b
    clear b
    go_wp2_with fail
    refine (HW1.out _).mono ?_
    rintro e w5 ⟨v2, rfl, i2, b⟩
    replace hf := hf.below b
    replace kf := kf.below b
    replace kr := kr.below b
    replace ia := ia.below b
    replace im := im.below b
    replace i1 := i1.below b
    replace hB := nextB hB b
    clear b
    have c0 := kf.cell0
    have c1 := kf.cell1
    have lt0 := kf.lt
    obtain ⟨wz, hw_⟩ : ∃ w_ : World, w_ = w5 := ⟨_, rfl⟩
    rw [← hw_] at hB kf kr hf ia im i1 i2 c0 c1 lt0 ⊢
    clear hw_
    go_wp2
    go_region_held3 (fun w' => w'.cell? ⟨w.heap.size, 0, none⟩ = some (.slice ao k cap) ∧ w'.cell? ⟨w.heap.size, 1, none⟩ = some (.slice ao2 k2 cap2) ∧ Below wz.heap.size wz w')
      (first
        | exact ⟨c0, c1, (Below.refl _ _).drew⟩
        | (go_split_ands; exact ⟨by assumption, by assumption, by assumption⟩)
        | (go_split_ands; have hk := nextB (by assumption) bb; exact ⟨(hk.cell (p := ⟨w.heap.size, 0, none⟩) lt0).trans c0, (hk.cell (p := ⟨w.heap.size, 1, none⟩) lt0).trans c1, hk⟩))
      (first
        | (go_at_call 109; go_split_ands; (with_reducible refine (den_any (hf.below (by assumption)) L (by omega) HD.out).mono ?_); rintro e wq ⟨v3, rfl, i3, bb⟩))
    go_split_ands
    have b : Below wz.heap.size wz wq := by assumption
    obtain ⟨w6, hw_⟩ : ∃ w_ : World, w_ = wq := ⟨_, rfl⟩
    rw [← hw_] at b i3 ⊢
    clear hw_
    clear c0 c1 lt0
    replace hf := hf.below b
    replace kf := kf.below b
    replace kr := kr.below b
    replace ia := ia.below b
    replace im := im.below b
    replace i1 := i1.below b
    replace i2 := i2.below b
    replace hB := nextB hB b
    clear b
    have i0 : IsN w6 (.slice none 0 0) 0 := IsN.zero _
    obtain ⟨wp, hw_⟩ : ∃ w_ : World, w_ = w6 := ⟨_, rfl⟩
    rw [← hw_] at hB kf kr hf ia im i1 i2 i3 i0 ⊢
    clear hw_
    go_wp2
    go_loopg [7, 8, 9, 10, 11, 12] D (fun g lp lq p q num den wr => ∃ nlp nlq np nq nn : Nat, IsN wr lp nlp ∧ IsN wr lq nlq ∧ IsN wr p np ∧ IsN wr q nq ∧ IsN wr num nn ∧ IsN wr den g ∧ Hid (Conv N D M nlp nlq np nq nn g) ∧ Below wp.heap.size wp wr)
    case atStart => exact ⟨0, 1, 1, 0, N, i0, i1, i2, i0, ia, i3, Lib.hid (Conv.start HM1.out), Below.refl _ _⟩
    case round =>
      obtain ⟨nlp, nlq, np, nq, nn, ilp, ilq, ip, iq, inn, ig, hi, hb⟩ := hrel
      clear i0 i1 i2 i3
      have HG0 := Lib.hid (hi.out.den_pos HG.out HDM.out)
      have HBD := Lib.hid (bestBd hi.out HN.out HD.out HDM.out)
      obtain ⟨ao4, k4, cap4, rfl, hk4, hk4b⟩ := ig.len
      have hk40 : 0 < k4 := Nat.pos_of_ne_zero (fun h => by have := hk4.1 h; have := HG0.out; omega)
      clear hk4
      have b := hb
      replace hf := hf.below b
      replace kf := kf.below b
      replace kr := kr.below b
      replace ia := ia.below b
      replace im := im.below b
      replace hB := nextB hB b
      clear b
      go_wp2_with fail
      refine (divMod_any inn ig HG0.out (L + 1) (by omega) HBD.out.fnum).mono ?_
      rintro e w7 ⟨v5, v6, rfl, i5, i6, b⟩
      replace hf := hf.below b
      replace kf := kf.below b
      replace kr := kr.below b
      replace ia := ia.below b
      replace im := im.below b
      replace ilp := ilp.below b
      replace ilq := ilq.below b
      replace ip := ip.below b
      replace iq := iq.below b
      replace ig := ig.below b
      replace hb := nextB hb b
      replace hB := nextB hB b
      clear b
      clear inn
      go_wp2_with fail
      refine (mul_any i5 iq (L + 1) (by omega) HBD.out.fa HBD.out.fq).mono ?_
      rintro e w8 ⟨v7, rfl, i7, b⟩
      replace hf := hf.below b
      replace kf := kf.below b
      replace kr := kr.below b
      replace ia := ia.below b
      replace im := im.below b
      replace ilp := ilp.below b
      replace ilq := ilq.below b
      replace ip := ip.below b
      replace iq := iq.below b
      replace ig := ig.below b
      replace i5 := i5.below b
      replace i6 := i6.below b
      replace hb := nextB hb b
      replace hB := nextB hB b
      clear b
      go_wp2_with fail
      refine (add_any i7 ilq (L + 1 + (L + 1)) (by omega) HBD.out.faq HBD.out.flq2).mono ?_
      rintro e w9 ⟨v8, rfl, i8, b⟩
      replace hf := hf.below b
      replace kf := kf.below b
      replace kr := kr.below b
      replace ia := ia.below b
      replace im := im.below b
      replace ilp := ilp.below b
      replace ilq := ilq.below b
      replace ip := ip.below b
      replace iq := iq.below b
      replace ig := ig.below b
      replace i5 := i5.below b
      replace i6 := i6.below b
      replace hb := nextB hb b
      replace hB := nextB hB b
      clear b
      clear i7
      go_wp2_with fail
      refine (cmp_any i8 im).mono ?_
      rintro e w10 ⟨rfl, b⟩
      replace hf := hf.below b
      replace kf := kf.below b
      replace kr := kr.below b
      replace ia := ia.below b
      replace im := im.below b
      replace ilp := ilp.below b
      replace ilq := ilq.below b
      replace ip := ip.below b
      replace iq := iq.below b
      replace ig := ig.below b
      replace i5 := i5.below b
      replace i6 := i6.below b
      replace i8 := i8.below b
      replace hb := nextB hb b
      replace hB := nextB hB b
      clear b
      by_cases hqm : M < nn / gk * nq + nlq
      · have HPB := Lib.hid hi.out.p_le
        rw [cmpI_gt hqm]
        have HE := Lib.hid (hi.out.ends HM1.out HG0.out H0.out hqm)
        clear hqm i5 i6 i8 ig hi
        go_wp2_with fail
        refine (sub_any im ilq (L + 1) (by omega) HBD.out.fm HBD.out.flqm).mono ?_
        rintro e w11 ⟨v9, rfl, i9, b⟩
        replace hf := hf.below b
        replace kf := kf.below b
        replace kr := kr.below b
        replace ilp := ilp.below b
        replace ilq := ilq.below b
        replace ip := ip.below b
        replace iq := iq.below b
        replace hB := nextB hB b
        clear b
        clear im hb
        go_wp2_with fail
        refine (divMod_any i9 iq HE.out.q0 (L + 1) (by omega) (Nat.lt_of_le_of_lt (Nat.sub_le _ _) HBD.out.fm)).mono ?_
        rintro e w12 ⟨v10, v11, rfl, i10, i11, b⟩
        replace hf := hf.below b
        replace kf := kf.below b
        replace kr := kr.below b
        replace ilp := ilp.below b
        replace ilq := ilq.below b
        replace ip := ip.below b
        replace iq := iq.below b
        replace hB := nextB hB b
        clear b
        clear i9 i11
        have HNE := Lib.hid (fun w_ a_ b_ v_ u_ (x1 : IsF w_ (.agg #[.slice ao k cap, .slice ao2 k2 cap2]) N D) (x2 : IsN w_ a_ np) (x3 : IsN w_ b_ nq) (x4 : IsN w_ v_ ((M - nlq) / nq * np + nlp)) (x5 : IsN w_ u_ ((M - nlq) / nq * nq + nlq)) => nearer_any x1 x2 x3 x4 x5 HE.out.q0 HE.out.q2 HE.out.g1 HE.out.g2 (L + 1) (by omega) (lt_P2_mono HN.out (by omega)) (lt_P2_mono HD.out (by omega)) HBD.out.fp HBD.out.fq (Nat.lt_of_le_of_lt HE.out.p2_le (lt_P2_mono HN.out (by omega))) (Nat.lt_of_le_of_lt HE.out.q2_le HBD.out.fm))
        have HBE := Lib.hid HE.out.best
        have HPL := Lib.hid HE.out.p2_le
        obtain ⟨wy, hw_⟩ : ∃ w_ : World, w_ = w12 := ⟨_, rfl⟩
        rw [← hw_] at hB kf kr hf ilp ilq ip iq i10 ⊢
        clear hw_
        have c0 := kf.cell0
        have c1 := kf.cell1
        have hlt := kf.lt
        clear kf
        have hdr : Below wy.heap.size wy wy.drew := (Below.refl _ _).drew
        replace hf := hf.below hdr
        replace ilp := ilp.below hdr
        replace ilq := ilq.below hdr
        replace ip := ip.below hdr
        replace iq := iq.below hdr
        replace i10 := i10.below hdr
        go_wp2
        go_region_held3 (fun w' => w'.cell? ⟨w.heap.size, 0, none⟩ = some (.slice ao k cap) ∧ w'.cell? ⟨w.heap.size, 1, none⟩ = some (.slice ao2 k2 cap2) ∧ (∃ s t, Fx w' (w.heap.size + 1) s t ∧ NoInt #[s, t]) ∧ w.heap.size < w'.heap.size ∧ Below w.heap.size w w')
          (first
            | exact ⟨c0, c1, ⟨_, _, kr.below (Below.refl _ _).drew, NoInt.two⟩, hlt, hB.drew⟩
            | (go_split_ands; exact ⟨by assumption, by assumption, by assumption, by assumption, by assumption⟩)
            | (go_split_ands; exact bs_call ⟨by assumption, by assumption, by assumption, by assumption, by assumption⟩ bb)
            | (go_split_ands; exact bs_store _ _ ⟨by assumption, by assumption, by assumption, by assumption, by assumption⟩ kx NoInt.two))
          (first
            | (go_at_call 100; go_split_ands; (with_reducible refine (mul_any i10 ip (L + 1) (by omega) HBD.out.ft HBD.out.fp).mono ?_); rintro e wq ⟨y1, rfl, j1, bb⟩; replace hf := hf.below bb; replace ilp := ilp.below bb; replace ilq := ilq.below bb; replace ip := ip.below bb; replace iq := iq.below bb; replace i10 := i10.below bb; obtain ⟨s_, t_, kx, kn⟩ := fx_next (R := w.heap.size + 1) (by assumption) bb)
            | (go_at_call 99; go_split_ands; (with_reducible refine (add_any j1 ilp (L + 1 + (L + 1)) (by omega) HBD.out.ftp HBD.out.flp2).mono ?_); rintro e wq ⟨y2, rfl, j2, bb⟩; replace hf := hf.below bb; replace ilq := ilq.below bb; replace ip := ip.below bb; replace iq := iq.below bb; replace i10 := i10.below bb; obtain ⟨s_, t_, kx, kn⟩ := fx_next (R := w.heap.size + 1) (by assumption) bb)
            | (go_at_call 100; go_split_ands; (with_reducible refine (mul_any i10 iq (L + 1) (by omega) HBD.out.ft HBD.out.fq).mono ?_); rintro e wq ⟨y3, rfl, j3, bb⟩; replace hf := hf.below bb; replace ilq := ilq.below bb; replace ip := ip.below bb; replace iq := iq.below bb; replace j2 := j2.below bb; obtain ⟨s_, t_, kx, kn⟩ := fx_next (R := w.heap.size + 1) (by assumption) bb)
            | (go_at_call 99; go_split_ands; (with_reducible refine (add_any j3 ilq (L + 1 + (L + 1)) (by omega) HBD.out.ftq HBD.out.flq2).mono ?_); rintro e wq ⟨y4, rfl, j4, bb⟩; replace hf := hf.below bb; replace ip := ip.below bb; replace iq := iq.below bb; replace j2 := j2.below bb; obtain ⟨s_, t_, kx, kn⟩ := fx_next (R := w.heap.size + 1) (by assumption) bb)
            | (go_at_call 124; go_split_ands; (with_reducible refine (HNE.out _ _ _ _ _ hf ip iq j2 j4).mono ?_); rintro e wq ⟨br, bs, hbt, v12, rfl, i12, bb⟩; obtain ⟨ao7, k7, cap7, ao8, k8, cap8, rfl, i13, i14, h7⟩ := i12.slice; obtain ⟨s_, t_, kx, kn⟩ := fx_next (R := w.heap.size + 1) (by assumption) bb; have e0 := kx.cell0; have e1 := kx.cell1; have f0 := kx.free0; have f1 := kx.free1; have g0 := fun v => (kx.set0 v).cell1; have g1 := fun v => (kx.set0 v).free1))
        go_split_ands
        have hC := show Below w.heap.size w _ by assumption
        have d0 := ((kx.set0 (.slice ao7 k7 cap7)).set1 (.slice ao8 k8 cap8)).cell0
        have d1 := ((kx.set0 (.slice ao7 k7 cap7)).set1 (.slice ao8 k8 cap8)).cell1
        go_wp2
        refine bodyPost_ret (v := .tuple #[.agg #[.slice ao7 k7 cap7, .slice ao8 k8 cap8], .int .i64 0]) (by simp [results, Try.results93, go_sem, d0, d1]) rfl ⟨br, bs, Lib.hid ⟨HBE.out br bs hbt.out, best_le hbt.out HPB.out HPL.out⟩, _, rfl, IsF.of ((i13.setF kx kn 0 _).setF (kx.set0 _) (noInt_set kn) 1 _) ((i14.setF kx kn 0 _).setF (kx.set0 _) (noInt_set kn) 1 _) h7, hC⟩
      · have hz : decide (0 < cmpI (nn / gk * nq + nlq) M) = false := decide_eq_false (by have := cmpI_np.2 (Nat.not_lt.1 hqm); omega)
        have HS := Lib.hid (hi.out.step HG0.out (Nat.not_lt.1 hqm))
        clear hqm hi
        go_wp2_with fail
        refine (mul_any i5 ip (L + 1) (by omega) HBD.out.fa HBD.out.fp).mono ?_
        rintro e w11 ⟨v9, rfl, i9, b⟩
        replace hf := hf.below b
        replace kf := kf.below b
        replace kr := kr.below b
        replace ia := ia.below b
        replace im := im.below b
        replace ilp := ilp.below b
        replace ip := ip.below b
        replace iq := iq.below b
        replace ig := ig.below b
        replace i6 := i6.below b
        replace i8 := i8.below b
        replace hb := nextB hb b
        replace hB := nextB hB b
        clear b
        clear i5 ilq
        go_wp2_with fail
        refine (add_any i9 ilp (L + 1 + (L + 1)) (by omega) HBD.out.fap HBD.out.flp2).mono ?_
        rintro e w12 ⟨v10, rfl, i10, b⟩
        replace hf := hf.below b
        replace kf := kf.below b
        replace kr := kr.below b
        replace ia := ia.below b
        replace im := im.below b
        replace ip := ip.below b
        replace iq := iq.below b
        replace ig := ig.below b
        replace i6 := i6.below b
        replace i8 := i8.below b
        replace hb := nextB hb b
        replace hB := nextB hB b
        clear b
        clear i9 ilp
        have hml := Nat.mod_lt nn HG0.out
        go_wp2
        go_roundg (nn % gk)
        case measure => exact hml
        case rel => exact ⟨np, nq, nn / gk * np + nlp, nn / gk * nq + nlq, gk, ip, iq, i10, i8, ig, i6, HS, hb⟩

end Go.Proofs.Ytppbhjhbaknidaa

/-
  The contract of the statements' apart. Condition: numbers of at most 8000 bits.
-/
set_option linter.unusedVariables false
set_option linter.unusedSimpArgs false
namespace Go.Proofs.Ytppbhjhbaknidaa
open Go.RowKit

set_option maxHeartbeats 4000000 in
set_option maxRecDepth 100000 in
theorem apart_any {w : World} {f g : Value} {n d n' d' : Nat} (hf : IsF w f n d) (hg : IsF w g n' d') (L : Nat) (hL : L ≤ 8000) (hn : n < P2 L) (hd : d < P2 L) (hn' : n' < P2 L) (hd' : d' < P2 L) :
    Calls Try.prog 95 #[f, g] w (RetF w (dst n d n' d' / Nat.gcd (dst n d n' d') (d * d')) (d * d' / Nat.gcd (dst n d n' d') (d * d'))) := by
  have hx := dst_lt hn hd hn' hd'
  have hy := mul_lt_P2 hd hd'
  have hcontr : ∀ (w_ : World) (f_ g_ : Value), IsF w_ f_ n d → IsF w_ g_ n' d' → n' * d ≤ n * d' → Calls Try.prog 89 #[f_, g_] w_ (RetF0 w_ (dst n d n' d' / Nat.gcd (dst n d n' d') (d * d')) (d * d' / Nat.gcd (dst n d n' d') (d * d'))) := by
    intro w_ f_ g_ h1 h2 hle
    have e : n * d' - n' * d = dst n d n' d' := by unfold dst; rw [if_neg (Nat.not_lt.2 hle)]
    have := FSub_any h1 h2 hle L (by omega) hn hd hn' hd'
    rw [e] at this
    exact this.mono fun e w' h => h.ok (within_ok (lt_P2_mono (div_bd hx) (by omega)) (lt_P2_mono (div_bd hy) (by omega)))
  have hcontr2 : ∀ (w_ : World) (f_ g_ : Value), IsF w_ f_ n d → IsF w_ g_ n' d' → n * d' < n' * d → Calls Try.prog 89 #[g_, f_] w_ (RetF0 w_ (dst n d n' d' / Nat.gcd (dst n d n' d') (d * d')) (d * d' / Nat.gcd (dst n d n' d') (d * d'))) := by
    intro w_ f_ g_ h1 h2 hle
    have e : n' * d - n * d' = dst n d n' d' := by unfold dst; rw [if_pos hle]
    have := FSub_any h2 h1 (Nat.le_of_lt hle) L (by omega) hn' hd' hn hd
    rw [e, Nat.mul_comm d' d] at this
    exact this.mono fun e w' h => h.ok (within_ok (lt_P2_mono (div_bd hx) (by omega)) (lt_P2_mono (div_bd hy) (by omega)))
  have H1 := Lib.hid hcontr
  have H2 := Lib.hid hcontr2
  have H3 := Lib.hid (fun w_ f_ g_ (h1 : IsF w_ f_ n d) (h2 : IsF w_ g_ n' d') (h3 : n * d' < n' * d) => FSub_neg h1 h2 h3 L (by omega) hn hd hn' hd')
  clear hcontr hcontr2 hx hy
  obtain ⟨ao, k, cap, ao2, k2, cap2, rfl, -, -, -⟩ := hf.slice
  obtain ⟨ao3, k3, cap3, ao4, k4, cap4, rfl, -, -, -⟩ := hg.slice
  obtain ⟨hB, kf, kg, kr⟩ := pro3f w (.slice ao k cap) (.slice ao2 k2 cap2) (.slice ao3 k3 cap3) (.slice ao4 k4 cap4)
  replace hf := hf.below hB
  replace hg := hg.below hB
  clear hn hd hn' hd'
  generalize dst n d n' d' / Nat.gcd (dst n d n' d') (d * d') = A at *
  generalize d * d' / Nat.gcd (dst n d n' d') (d * d') = B at *
  have c0 := kf.cell0
  have c1 := kf.cell1
  have c2 := kg.cell0
  have c3 := kg.cell1
  go_enter Try.func95, Try.ntmps95
  go_wp2_with fail
  clear c0 c1 c2 c3
  obtain ⟨wo, hw_⟩ : ∃ w_ : World, w_ = ((w.alloc (.cells #[.slice ao k cap, .slice ao2 k2 cap2] 50)).alloc (.cells #[.slice ao3 k3 cap3, .slice ao4 k4 cap4] 50)).alloc (.cells #[.slice none 0 0, .slice none 0 0] 50) := ⟨_, rfl⟩
  rw [← hw_] at hB kf kg kr hf hg ⊢
  clear hw_
  by_cases hlt : n * d' < n' * d
  · refine (H3.out _ _ _ hf hg hlt).mono ?_
    rintro e w1 ⟨v, rfl, iv, b⟩
    rw [if_neg (by omega), if_neg (by omega)] at iv
    have HLT := Lib.hid hlt
    clear hlt H1 H3
    obtain ⟨ao5, k5, cap5, ao6, k6, cap6, rfl, -, -, -⟩ := iv.slice
    clear iv
    replace hf := hf.below b
    replace hg := hg.below b
    replace kf := kf.below b
    replace kg := kg.below b
    replace kr := kr.below b
    replace hB := nextB hB b
    clear b
    obtain ⟨b, ks⟩ := prof w1 (.slice ao5 k5 cap5) (.slice ao6 k6 cap6)
    have hne : w.heap.size + 1 + 1 ≠ w1.heap.size := Nat.ne_of_lt kr.lt
    have hle : w.heap.size ≤ w1.heap.size := Nat.le_of_lt (Nat.lt_of_le_of_lt (by omega) kr.lt)
    obtain ⟨R, hR⟩ : ∃ R, R = w1.heap.size := ⟨_, rfl⟩
    have c0 := (kf.below b).cell0
    have c1 := (kf.below b).cell1
    have c2 := (kg.below b).cell0
    have c3 := (kg.below b).cell1
    have c4 := ks.cell0
    have c5 := ks.cell1
    go_wp2_with fail
    clear c0 c1 c2 c3 c4 c5
    obtain ⟨w2, hw_⟩ : ∃ w_ : World, w_ = (w1.alloc (.cells #[.slice ao5 k5 cap5, .slice ao6 k6 cap6] 50)) := ⟨_, rfl⟩
    rw [← hw_] at b ks ⊢
    rw [← hR] at ks hne hle ⊢
    clear hw_ hR
    replace hf := hf.below b
    replace hg := hg.below b
    replace kf := kf.below b
    replace kg := kg.below b
    replace kr := kr.below b
    replace hB := nextB hB b
    clear b
    refine (H2.out _ _ _ hf hg HLT.out).mono ?_
    rintro e w3 ⟨v, rfl, iv, b⟩
    clear hf hg kf kg
    replace kr := kr.below b
    replace ks := ks.below b
    replace hB := nextB hB b
    clear b
    obtain ⟨ao7, k7, cap7, ao8, k8, cap8, rfl, i1, i2, h7⟩ := iv.slice
    clear iv
    have c0 := ks.cell0
    have c1 := ks.cell1
    have f0 := ks.free0
    have f1 := ks.free1
    have ksa := ks.set0 (.slice ao7 k7 cap7)
    have d0 := ksa.cell0
    have d1 := ksa.cell1
    have g1 := ksa.free1
    have ksb := ksa.set1 (.slice ao8 k8 cap8)
    have e0 := ksb.cell0
    have e1 := ksb.cell1
    have kra := (kr.setO hne 0 (.slice ao7 k7 cap7)).setO hne 1 (.slice ao8 k8 cap8)
    have p0 := kra.cell0
    have p1 := kra.cell1
    have p2 := kra.free0
    have p3 := kra.free1
    have krb := kra.set0 (.slice ao7 k7 cap7)
    have q0 := krb.cell0
    have q1 := krb.cell1
    have q2 := krb.free1
    have krc := krb.set1 (.slice ao8 k8 cap8)
    have r0 := krc.cell0
    have r1 := krc.cell1
    go_wp2
    refine bodyPost_ret (v := .agg #[.slice ao7 k7 cap7, .slice ao8 k8 cap8]) (by simp [results, Try.results95, go_sem, r0, r1]) rfl ⟨_, rfl, IsF.of ((((i1.setF ks NoInt.two 0 _).setF ksa NoInt.two 1 _).setF kra NoInt.two 0 _).setF krb NoInt.two 1 _) ((((i2.setF ks NoInt.two 0 _).setF ksa NoInt.two 1 _).setF kra NoInt.two 0 _).setF krb NoInt.two 1 _) h7, (((hB.setCell (p := ⟨R, 0, none⟩) hle _).setCell (p := ⟨R, 1, none⟩) hle _).setCell (p := ⟨w.heap.size + 1 + 1, 0, none⟩) (by simp <;> omega) _).setCell (p := ⟨w.heap.size + 1 + 1, 1, none⟩) (by simp <;> omega) _⟩
  · refine (H1.out _ _ _ hf hg (Nat.not_lt.1 hlt)).mono ?_
    rintro e w1 ⟨v, rfl, iv, b⟩
    clear hlt H1 H2 H3 hf hg kf kg
    obtain ⟨ao7, k7, cap7, ao8, k8, cap8, rfl, i1, i2, h7⟩ := iv.slice
    clear iv
    replace kr := kr.below b
    replace hB := nextB hB b
    clear b
    obtain ⟨b, ks⟩ := prof w1 (.slice ao7 k7 cap7) (.slice ao8 k8 cap8)
    replace i1 := i1.below b
    replace i2 := i2.below b
    replace kr := kr.below b
    replace hB := nextB hB b
    clear b
    have e0 := ks.cell0
    have e1 := ks.cell1
    have p0 := kr.cell0
    have p1 := kr.cell1
    have p2 := kr.free0
    have p3 := kr.free1
    have krb := kr.set0 (.slice ao7 k7 cap7)
    have q0 := krb.cell0
    have q1 := krb.cell1
    have q2 := krb.free1
    have krc := krb.set1 (.slice ao8 k8 cap8)
    have r0 := krc.cell0
    have r1 := krc.cell1
    go_wp2
    refine bodyPost_ret (v := .agg #[.slice ao7 k7 cap7, .slice ao8 k8 cap8]) (by simp [results, Try.results95, go_sem, r0, r1]) rfl ⟨_, rfl, IsF.of ((i1.setF kr NoInt.two 0 _).setF krb NoInt.two 1 _) ((i2.setF kr NoInt.two 0 _).setF krb NoInt.two 1 _) h7, (hB.setCell (by simp <;> omega) _).setCell (by simp <;> omega) _⟩

end Go.Proofs.Ytppbhjhbaknidaa
