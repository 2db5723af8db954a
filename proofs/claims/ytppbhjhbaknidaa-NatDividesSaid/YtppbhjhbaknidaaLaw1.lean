/-
  The walks of the laws NatParses, NatProducts. No condition.
-/
import Derived.Test.YtppbhjhbaknidaaAwake
import Derived.Test.YtppbhjhbaknidaaRefG
import Derived.Test.YtppbhjhbaknidaaRefD
set_option linter.unusedVariables false
set_option linter.unusedSimpArgs false
namespace Go.Proofs.Ytppbhjhbaknidaa
open Go.RowKit

theorem parseE_lt (l : List Nat) : parseE l < 1000 := by
  rw [parseE_eq]
  unfold fitE
  split
  · split <;> omega
  · omega
theorem numOf_P2 {s : ByteArray} (h : s.size ≤ 6000) (hn : IsNum (byts s)) : numOf (byts s) < P2 30000 := by
  have h1 := numOf_lt (l := byts s) hn.2.2 (byts s).length (Nat.le_refl _)
  rw [List.take_length, byts_len] at h1
  exact Nat.lt_of_lt_of_le h1 (Nat.le_trans (pow10_P2 _) (P2_mono (by omega)))

/-- What both parsers return. -/
def parseN (s : ByteArray) : Nat := if IsNum (byts s) then numOf (byts s) else 0

theorem parseN_eq {s : ByteArray} (h : parseE (byts s) = 0) : parseN s = numOf (byts s) := by
  unfold parseN
  rw [parseE_eq] at h
  split at h
  · next hn => rw [if_pos hn]
  · cases h
theorem parseN_lt {s : ByteArray} (h : s.size ≤ 6000) : parseN s < P2 30000 := by
  unfold parseN
  split
  · next hn => exact numOf_P2 h hn
  · exact P2_pos _

set_option maxHeartbeats 1000000 in
theorem NatParses_walk (s : ByteArray) (w : World) (hs : s.size ≤ 9223372036854775807) :
    Calls Try.prog 3 #[.string s] w (RetB w true) := by
  by_cases h : 6000 < s.size
  · go_enter Try.func3, Try.ntmps3
    go_wp2_with fail
    refine (awake_any _).mono ?_
    rintro e w1 ⟨rfl, b1⟩
    go_wp2
    go_ret
    exact ⟨rfl, b1⟩
  · have hs6 : s.size ≤ 6000 := by omega
    have HP : Hid (∀ w0, Calls Try.prog 32 #[.string s] w0 (RetE w0 (parseN s) (parseE (byts s)))) := Lib.hid fun w0 => by
      have := parse_any s w0 (by omega)
      refine this.mono ?_
      rintro e w' ⟨v, he, hv, hb⟩
      refine ⟨v, he, ?_, hb⟩
      by_cases h0 : parseE (byts s) = 0
      · rw [if_pos h0] at hv ⊢; rw [parseN_eq h0]; exact hv
      · rw [if_neg h0] at hv ⊢; exact hv
    have HR : Hid (∀ w0, Calls Try.prog 33 #[.string s] w0 (RetRE w0 (parseN s) (parseE (byts s)))) := Lib.hid fun w0 => by
      have := parseR_any s w0 (by omega)
      refine this.mono ?_
      rintro e w' ⟨v, he, hv, hb⟩
      refine ⟨v, he, ?_, hb⟩
      by_cases h0 : parseE (byts s) = 0
      · rw [if_pos h0] at hv ⊢; rw [parseN_eq h0]; exact hv
      · rw [if_neg h0] at hv ⊢; exact hv
    have HE := Lib.hid (parseE_lt (byts s))
    obtain ⟨L, hLL, hLN⟩ : ∃ L, L ≤ 1073741824 ∧ parseN s < P2 L := ⟨30000, by omega, parseN_lt hs6⟩
    have HL := Lib.hid hLN
    clear hLN
    generalize parseE (byts s) = er at *
    generalize parseN s = n at *
    go_enter Try.func3, Try.ntmps3
    go_wp2_with fail
    refine (HP.out _).mono ?_
    rintro e w1 ⟨v, rfl, iv, hB⟩
    obtain ⟨ao, k, cap, rfl, i1⟩ := iv.slice
    clear iv
    have b := below_alloc w1 (.cells #[.slice ao k cap] 25)
    have kx := (Blk.new w1 #[.slice ao k cap] 25).bx
    obtain ⟨R1, hR1⟩ : ∃ R, R = w1.heap.size := ⟨_, rfl⟩
    go_wp2_with fail
    obtain ⟨w2, hw2⟩ : ∃ w2 : World, w2 = w1.alloc (.cells #[.slice ao k cap] 25) := ⟨_, rfl⟩
    rw [← hw2] at b kx ⊢
    rw [← hR1] at kx ⊢
    clear hw2 hR1
    replace hB := nextB hB b
    replace i1 := i1.below b
    clear b
    refine (HR.out _).mono ?_
    rintro e w3 ⟨v2, rfl, i2, b⟩
    replace hB := nextB hB b
    replace i1 := i1.below b
    replace kx := kx.below b
    clear b
    have c1 := kx.cell
    go_wp2_with fail
    refine (told_any ⟨_, rfl, i1⟩ i2 (fun h => by rw [if_pos h]) HE.out L hLL HL.out).mono ?_
    rintro e w4 ⟨rfl, b⟩
    replace hB := nextB hB b
    go_wp2_with fail
    refine (awake_any _).mono ?_
    rintro e w5 ⟨rfl, b⟩
    replace hB := nextB hB b
    go_wp2
    go_ret
    exact ⟨rfl, hB⟩

set_option maxHeartbeats 1000000 in
theorem NatProducts_walk (va vb : Value) (w : World) (ha : In16 w va) (hb : In16 w vb) :
    Calls Try.prog 4 #[va, vb] w (RetB w true) := by
  go_enter Try.func4, Try.ntmps4
  go_wp2_with fail
  refine (raw_any ha 600 (by omega)).mono ?_
  rintro e w1 ⟨m, hm, v1, rfl, i1, hB⟩
  go_wp2_with fail
  refine (raw_any (hb.below hB) 600 (by omega)).mono ?_
  rintro e w2 ⟨n, hn, v2, rfl, i2, b⟩
  replace hB := nextB hB b
  replace i1 := i1.below b
  clear b
  have hm2 := lt_P2_mono hm (show 16 * 600 ≤ 16384 by omega)
  have hn2 := lt_P2_mono hn (show 16 * 600 ≤ 16384 by omega)
  have hmn := mul_lt_P2 hm2 hn2
  obtain ⟨L, hL⟩ : ∃ L, L = 16384 := ⟨_, rfl⟩
  have HL := Lib.hid hL
  have hLL : L ≤ 16384 := by omega
  rw [← hL] at hmn
  have HM := Lib.hid hm2
  have HN := Lib.hid hn2
  have HMN := Lib.hid hmn
  clear hm hn hm2 hn2 hL hmn
  go_wp2_with fail
  refine (two_any i1 i2 HM.out HN.out).mono ?_
  rintro e w3 ⟨u1, u2, rfl, j1, j2, b⟩
  obtain ⟨ao1, k1, cap1, rfl, x1⟩ := j1.slice
  obtain ⟨ao2, k2, cap2, rfl, x2⟩ := j2.slice
  clear j1 j2
  replace hB := nextB hB b
  replace i1 := i1.below b
  replace i2 := i2.below b
  clear b
  obtain ⟨b, kx, ky⟩ := pro2 w3 (.slice ao1 k1 cap1) (.slice ao2 k2 cap2)
  obtain ⟨R, hR⟩ : ∃ R, R = w3.heap.size := ⟨_, rfl⟩
  have c1 := kx.cell
  have c2 := ky.cell
  go_wp2_with fail
  obtain ⟨w4, hw4⟩ : ∃ w4 : World, w4 = (w3.alloc (.cells #[.slice ao1 k1 cap1] 25)).alloc (.cells #[.slice ao2 k2 cap2] 25) := ⟨_, rfl⟩
  rw [← hw4] at b kx ky ⊢
  rw [← hR] at kx ky ⊢
  clear hw4 hR c1 c2
  replace hB := nextB hB b
  replace i1 := i1.below b
  replace i2 := i2.below b
  replace x1 := x1.below b
  replace x2 := x2.below b
  clear b
  refine (Mul_any ⟨_, rfl, x1⟩ ⟨_, rfl, x2⟩ L (by omega) (by rw [HL.out]; exact HM.out) (by rw [HL.out]; exact HN.out)).mono ?_
  rintro e w5 ⟨v3, rfl, iv, b⟩
  obtain ⟨ao3, k3, cap3, rfl, x3⟩ := iv.slice
  replace hB := nextB hB b
  replace i1 := i1.below b
  replace i2 := i2.below b
  clear b x1 x2 kx ky iv
  obtain ⟨b, kz⟩ := pro1 w5 (.slice ao3 k3 cap3)
  obtain ⟨R3, hR3⟩ : ∃ R, R = w5.heap.size := ⟨_, rfl⟩
  go_wp2_with fail
  obtain ⟨w6, hw6⟩ : ∃ w6 : World, w6 = w5.alloc (.cells #[.slice ao3 k3 cap3] 25) := ⟨_, rfl⟩
  rw [← hw6] at b kz ⊢
  rw [← hR3] at kz ⊢
  clear hw6 hR3
  replace hB := nextB hB b
  replace i1 := i1.below b
  replace i2 := i2.below b
  replace x3 := x3.below b
  clear b
  refine (mulR_any i1 i2 L (by omega) (by rw [HL.out]; exact HM.out) (by rw [HL.out]; exact HN.out)).mono ?_
  rintro e w7 ⟨v4, rfl, i4, b⟩
  replace hB := nextB hB b
  replace x3 := x3.below b
  replace kz := kz.below b
  clear b i1 i2
  have c0 := kz.cell
  have hlt := kz.lt
  have hfl : fitE (m * n) < 1000 := by unfold fitE; split <;> omega
  have HFL := Lib.hid hfl
  clear hfl
  have HFit := Lib.hid (fun (w' : World) (h : IsR w' v4 (m * n)) => fit_any h)
  generalize m * n = p at *
  generalize fitE p = er at *
  obtain ⟨wo, hwo⟩ : ∃ wo : World, wo = w7 := ⟨_, rfl⟩
  rw [← hwo] at hB x3 i4 kz c0 hlt ⊢
  clear hwo
  go_wp2
  go_region_held3 (fun w' => w'.cell? ⟨R3, 0, none⟩ = some (.slice ao3 k3 cap3) ∧ Below wo.heap.size wo w')
    (first
      | exact ⟨c0, (Below.refl _ _).drew⟩
      | (go_split_ands; exact ⟨((nextB (by assumption) b1).cell (p := ⟨R3, 0, none⟩) hlt).trans c0, nextB (by assumption) b1⟩)
      | (go_split_ands; exact ⟨((nextB (by assumption) b2).cell (p := ⟨R3, 0, none⟩) hlt).trans c0, nextB (by assumption) b2⟩)
      | (go_split_ands; exact ⟨((nextB (by assumption) b3).cell (p := ⟨R3, 0, none⟩) hlt).trans c0, nextB (by assumption) b3⟩))
    (first
      | (go_at_call 39; go_split_ands; refine (HFit.out _ (i4.below (by assumption))).mono ?_; rintro e w1 ⟨rfl, rfl⟩)
      | (go_at_call 34; go_split_ands; refine (told_any ⟨_, rfl, x3.below (by assumption)⟩ (i4.below (by assumption)) (fun _ => rfl) HFL.out (L + L) (by omega) HMN.out).mono ?_; rintro e w2 ⟨rfl, b2⟩)
      | (go_at_call 31; go_split_ands; refine (awake_any _).mono ?_; rintro e w3 ⟨rfl, b3⟩))
  go_split_ands
  have hC := nextB hB (by assumption)
  go_wp2
  go_ret
  exact ⟨rfl, hC⟩

end Go.Proofs.Ytppbhjhbaknidaa
