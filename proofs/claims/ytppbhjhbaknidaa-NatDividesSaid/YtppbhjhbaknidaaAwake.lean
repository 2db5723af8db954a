/-
  The contract of the statements' awake: it returns true. No condition.
-/
import Derived.Test.YtppbhjhbaknidaaHelp
set_option linter.unusedVariables false
set_option linter.unusedSimpArgs false
namespace Go.Proofs.Ytppbhjhbaknidaa
open Go.RowKit

theorem rdec_one {d : Nat} (h0 : 0 < d) (h : d < 10) : rdec d = [48 + d] := by
  rw [rdec_pos (by omega), show d / 10 = 0 by omega, rdec_zero, show d % 10 = d by omega]
theorem txt_7 : txt 7 = ⟨#[55]⟩ := by
  unfold txt decs; rw [if_neg (by omega), rdec_one (by omega) (by omega)]; rfl
theorem txt_10 : txt 10 = ⟨#[49, 48]⟩ := by
  unfold txt decs; rw [if_neg (by omega), rdec_pos (by omega), show 10 / 10 = 1 by omega, rdec_one (by omega) (by omega)]; rfl
theorem txt_17 : txt 17 = ⟨#[49, 55]⟩ := by
  unfold txt decs; rw [if_neg (by omega), rdec_pos (by omega), show 17 / 10 = 1 by omega, rdec_one (by omega) (by omega)]; rfl
theorem P2_16384 {n : Nat} (h : n < 1073741824) : n < P2 16384 := lt_P2_mono (show n < P2 30 by unfold P2; omega) (by omega)
theorem ftxt_710 : ftxt (7 / Nat.gcd 7 10) (10 / Nat.gcd 7 10) = ⟨#[55, 47, 49, 48]⟩ := by
  have e : Nat.gcd 7 10 = 1 := by decide
  rw [e]
  unfold ftxt
  rw [if_neg (by decide), show 7 / 1 = 7 from rfl, show 10 / 1 = 10 from rfl, txt_7, txt_10]
  rfl

set_option maxHeartbeats 2000000 in
set_option maxRecDepth 100000 in
theorem awake_any (w : World) : Calls Try.prog 31 #[] w (RetB w true) := by
  have h7 : 7 < P2 16384 := P2_16384 (by omega)
  have h10 : 10 < P2 16384 := P2_16384 (by omega)
  have h17 : 7 + 10 < P2 16384 := P2_16384 (by omega)
  have H7 := Lib.hid h7
  have H10 := Lib.hid h10
  have H17 := Lib.hid h17
  clear h7 h10 h17
  go_enter Try.func31, Try.ntmps31
  go_wp2_with fail
  refine (New_any 7 (by omega)).mono ?_
  rintro e w1 ⟨v1, rfl, iv, hB⟩
  rw [if_pos rfl] at iv
  obtain ⟨ao1, k1, cap1, rfl, i1⟩ := iv.slice
  clear iv
  have b := below_alloc w1 (.cells #[.slice ao1 k1 cap1] 25)
  have kx := (Blk.new w1 #[.slice ao1 k1 cap1] 25).bx
  obtain ⟨R1, hR1⟩ : ∃ R, R = w1.heap.size := ⟨_, rfl⟩
  go_wp2_with fail
  obtain ⟨w2, hw2⟩ : ∃ w2 : World, w2 = w1.alloc (.cells #[.slice ao1 k1 cap1] 25) := ⟨_, rfl⟩
  rw [← hw2] at b kx ⊢
  rw [← hR1] at kx ⊢
  clear hw2 hR1
  replace hB := nextB hB b
  replace i1 := i1.below b
  clear b
  have hp := parse_any (txt 10) w2 (txt_sz H10.out)
  rw [parseE_txt H10.out, numOf_txt, txt_10] at hp
  refine hp.mono ?_
  clear hp
  rintro e w3 ⟨v, rfl, iv, b⟩
  rw [if_pos rfl] at iv
  obtain ⟨ao2, k2, cap2, rfl, i2⟩ := iv.slice
  clear iv
  replace hB := nextB hB b
  replace i1 := i1.below b
  replace kx := kx.below b
  clear b
  have b := below_alloc w3 (.cells #[.slice ao2 k2 cap2] 25)
  have ky := (Blk.new w3 #[.slice ao2 k2 cap2] 25).bx
  obtain ⟨R2, hR2⟩ : ∃ R, R = w3.heap.size := ⟨_, rfl⟩
  have c1 := (kx.below b).cell
  have c2 := ky.cell
  go_wp2_with fail
  obtain ⟨w4, hw4⟩ : ∃ w4 : World, w4 = w3.alloc (.cells #[.slice ao2 k2 cap2] 25) := ⟨_, rfl⟩
  rw [← hw4] at b ky ⊢
  rw [← hR2] at ky ⊢
  clear hw4 hR2 c1 c2
  replace hB := nextB hB b
  replace i1 := i1.below b
  replace i2 := i2.below b
  replace kx := kx.below b
  clear b
  refine (Add_any ⟨_, rfl, i1⟩ ⟨_, rfl, i2⟩ 16384 (by omega) H7.out H10.out).mono ?_
  have hf0 : fitE (7 + 10) = 0 := if_pos H17.out
  rw [hf0]
  rintro e w5 ⟨v, rfl, iv, b⟩
  rw [if_pos rfl] at iv
  obtain ⟨ao3, k3, cap3, rfl, i3⟩ := iv.slice
  clear iv hf0
  replace hB := nextB hB b
  replace i1 := i1.below b
  replace i2 := i2.below b
  replace kx := kx.below b
  replace ky := ky.below b
  clear b
  have b := below_alloc w5 (.cells #[.slice ao3 k3 cap3] 25)
  have kz := (Blk.new w5 #[.slice ao3 k3 cap3] 25).bx
  obtain ⟨R3, hR3⟩ : ∃ R, R = w5.heap.size := ⟨_, rfl⟩
  have c1 := (kx.below b).cell
  have c2 := (ky.below b).cell
  go_wp2_with fail
  obtain ⟨w6, hw6⟩ : ∃ w6 : World, w6 = w5.alloc (.cells #[.slice ao3 k3 cap3] 25) := ⟨_, rfl⟩
  rw [← hw6] at b kz ⊢
  rw [← hR3] at kz ⊢
  clear hw6 hR3 c1 c2
  replace hB := nextB hB b
  replace i1 := i1.below b
  replace i2 := i2.below b
  replace i3 := i3.below b
  clear b kx ky
  refine (NewFrac_any ⟨_, rfl, i1⟩ ⟨_, rfl, i2⟩ (by omega) 16384 (by omega) H7.out H10.out).mono ?_
  rintro e w7 ⟨v, rfl, iv, b⟩
  rw [if_pos rfl, if_pos rfl] at iv
  obtain ⟨ao4, k4, cap4, ao5, k5, cap5, rfl, i4, i5, h0⟩ := iv.slice
  replace hB := nextB hB b
  replace i3 := i3.below b
  replace kz := kz.below b
  clear b i1 i2
  obtain ⟨b, kf⟩ := prof w7 (.slice ao4 k4 cap4) (.slice ao5 k5 cap5)
  obtain ⟨R4, hR4⟩ : ∃ R, R = w7.heap.size := ⟨_, rfl⟩
  have c1 := (kz.below b).cell
  go_wp2_with fail
  obtain ⟨w8, hw8⟩ : ∃ w8 : World, w8 = w7.alloc (.cells #[.slice ao4 k4 cap4, .slice ao5 k5 cap5] 50) := ⟨_, rfl⟩
  rw [← hw8] at b kf ⊢
  rw [← hR4] at kf ⊢
  clear hw8 hR4 c1
  replace hB := nextB hB b
  replace i3 := i3.below b
  replace iv := iv.below b
  replace kz := kz.below b
  clear b
  refine (String_any ⟨_, rfl, i3⟩ 16384 (by omega) H17.out).mono ?_
  rintro e w9 ⟨rfl, b⟩
  rw [show 7 + 10 = 17 from rfl, txt_17]
  replace hB := nextB hB b
  replace iv := iv.below b
  replace kf := kf.below b
  clear b
  have c1 := kf.cell0
  have c2 := kf.cell1
  go_wp2_with fail
  refine (FString_any iv 16384 (by omega) (Nat.lt_of_le_of_lt (Nat.div_le_self _ _) H7.out) (Nat.lt_of_le_of_lt (Nat.div_le_self _ _) H10.out)).mono ?_
  rintro e w10 ⟨rfl, b⟩
  rw [ftxt_710]
  replace hB := nextB hB b
  go_wp2
  go_ret
  exact ⟨rfl, hB⟩

end Go.Proofs.Ytppbhjhbaknidaa
