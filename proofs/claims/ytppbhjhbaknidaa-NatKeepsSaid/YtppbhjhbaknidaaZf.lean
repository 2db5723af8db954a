/-
  The walks of the laws NatParses, NatProducts. No condition. The walks of the laws NatGcds, NatDivides. No condition. The walks of the laws NatNew, NatBinomials, NatPascal, NatRoots. No condition.
-/
import Derived.Test.YtppbhjhbaknidaaZe
set_option linter.unusedVariables false
set_option linter.unusedSimpArgs false

/-
  The walks of the laws NatParses, NatProducts. No condition.
-/
set_option linter.unusedVariables false
set_option linter.unusedSimpArgs false
namespace Go.Proofs.Ytppbhjhbaknidaa
open Go.RowKit

theorem parseE_lt (l : List Nat) : parseE l < 1000 := by
  rw [parseE_eq]
  unfold fitE
  split
  · split <;> omega
  · omega
theorem numOf_P2 {s : ByteArray} (h : s.size ≤ 6000) (hn : IsNum (byts s)) : numOf (byts s) < P2 30000 := by
  have h1 := numOf_lt (l := byts s) hn.2.2 (byts s).length (Nat.le_refl _)
  rw [List.take_length, byts_len] at h1
  exact Nat.lt_of_lt_of_le h1 (Nat.le_trans (pow10_P2 _) (P2_mono (by omega)))

/-- What both parsers return. -/
def parseN (s : ByteArray) : Nat := if IsNum (byts s) then numOf (byts s) else 0

theorem parseN_eq {s : ByteArray} (h : parseE (byts s) = 0) : parseN s = numOf (byts s) := by
  unfold parseN
  rw [parseE_eq] at h
  split at h
  · next hn => rw [if_pos hn]
  · cases h
theorem parseN_lt {s : ByteArray} (h : s.size ≤ 6000) : parseN s < P2 30000 := by
  unfold parseN
  split
  · next hn => exact numOf_P2 h hn
  · exact P2_pos _

set_option maxHeartbeats 1000000 in
theorem NatParses_walk (s : ByteArray) (w : World) (hs : s.size ≤ 9223372036854775807) :
    Calls Try.prog 3 #[.string s] w (RetB w true) := by
  by_cases h : 6000 < s.size
  · go_enter Try.func3, Try.ntmps3
    go_wp2_with fail
    refine (awake_any _).mono ?_
    rintro e w1 ⟨rfl, b1⟩
    go_wp2
    go_ret
    exact ⟨rfl, b1⟩
  · have hs6 : s.size ≤ 6000 := by omega
    have HP : Hid (∀ w0, Calls Try.prog 32 #[.string s] w0 (RetE w0 (parseN s) (parseE (byts s)))) := Lib.hid fun w0 => by
      have := parse_any s w0 (by omega)
      refine this.mono ?_
      rintro e w' ⟨v, he, hv, hb⟩
      refine ⟨v, he, ?_, hb⟩
      by_cases h0 : parseE (byts s) = 0
      · rw [if_pos h0] at hv ⊢; rw [parseN_eq h0]; exact hv
      · rw [if_neg h0] at hv ⊢; exact hv
    have HR : Hid (∀ w0, Calls Try.prog 33 #[.string s] w0 (RetRE w0 (parseN s) (parseE (byts s)))) := Lib.hid fun w0 => by
      have := parseR_any s w0 (by omega)
      refine this.mono ?_
      rintro e w' ⟨v, he, hv, hb⟩
      refine ⟨v, he, ?_, hb⟩
      by_cases h0 : parseE (byts s) = 0
      · rw [if_pos h0] at hv ⊢; rw [parseN_eq h0]; exact hv
      · rw [if_neg h0] at hv ⊢; exact hv
    have HE := Lib.hid (parseE_lt (byts s))
    obtain ⟨L, hLL, hLN⟩ : ∃ L, L ≤ 1073741824 ∧ parseN s < P2 L := ⟨30000, by omega, parseN_lt hs6⟩
    have HL := Lib.hid hLN
    clear hLN
    generalize parseE (byts s) = er at *
    generalize parseN s = n at *
    go_enter Try.func3, Try.ntmps3
    go_wp2_with fail
    refine (HP.out _).mono ?_
    rintro e w1 ⟨v, rfl, iv, hB⟩
    obtain ⟨ao, k, cap, rfl, i1⟩ := iv.slice
    clear iv
    have b := below_alloc w1 (.cells #[.slice ao k cap] 25)
    have kx := (Blk.new w1 #[.slice ao k cap] 25).bx
    obtain ⟨R1, hR1⟩ : ∃ R, R = w1.heap.size := ⟨_, rfl⟩
    go_wp2_with fail
    obtain ⟨w2, hw2⟩ : ∃ w2 : World, w2 = w1.alloc (.cells #[.slice ao k cap] 25) := ⟨_, rfl⟩
    rw [← hw2] at b kx ⊢
    rw [← hR1] at kx ⊢
    clear hw2 hR1
    replace hB := nextB hB b
    replace i1 := i1.below b
    clear b
    refine (HR.out _).mono ?_
    rintro e w3 ⟨v2, rfl, i2, b⟩
    replace hB := nextB hB b
    replace i1 := i1.below b
    replace kx := kx.below b
    clear b
    have c1 := kx.cell
    go_wp2_with fail
    refine (told_any ⟨_, rfl, i1⟩ i2 (fun h => by rw [if_pos h]) HE.out L hLL HL.out).mono ?_
    rintro e w4 ⟨rfl, b⟩
    replace hB := nextB hB b
    go_wp2_with fail
    refine (awake_any _).mono ?_
    rintro e w5 ⟨rfl, b⟩
    replace hB := nextB hB b
    go_wp2
    go_ret
    exact ⟨rfl, hB⟩

set_option maxHeartbeats 1000000 in
theorem NatProducts_walk (va vb : Value) (w : World) (ha : In16 w va) (hb : In16 w vb) :
    Calls Try.prog 4 #[va, vb] w (RetB w true) := by
  go_enter Try.func4, Try.ntmps4
  go_wp2_with fail
  refine (raw_any ha 600 (by omega)).mono ?_
  rintro e w1 ⟨m, hm, v1, rfl, i1, hB⟩
  go_wp2_with fail
  refine (raw_any (hb.below hB) 600 (by omega)).mono ?_
  rintro e w2 ⟨n, hn, v2, rfl, i2, b⟩
  replace hB := nextB hB b
  replace i1 := i1.below b
  clear b
  have hm2 := lt_P2_mono hm (show 16 * 600 ≤ 16384 by omega)
  have hn2 := lt_P2_mono hn (show 16 * 600 ≤ 16384 by omega)
  have hmn := mul_lt_P2 hm2 hn2
  obtain ⟨L, hL⟩ : ∃ L, L = 16384 := ⟨_, rfl⟩
  have HL := Lib.hid hL
  have hLL : L ≤ 16384 := by omega
  rw [← hL] at hmn
  have HM := Lib.hid hm2
  have HN := Lib.hid hn2
  have HMN := Lib.hid hmn
  clear hm hn hm2 hn2 hL hmn
  go_wp2_with fail
  refine (two_any i1 i2 HM.out HN.out).mono ?_
  rintro e w3 ⟨u1, u2, rfl, j1, j2, b⟩
  obtain ⟨ao1, k1, cap1, rfl, x1⟩ := j1.slice
  obtain ⟨ao2, k2, cap2, rfl, x2⟩ := j2.slice
  clear j1 j2
  replace hB := nextB hB b
  replace i1 := i1.below b
  replace i2 := i2.below b
  clear b
  obtain ⟨b, kx, ky⟩ := pro2 w3 (.slice ao1 k1 cap1) (.slice ao2 k2 cap2)
  obtain ⟨R, hR⟩ : ∃ R, R = w3.heap.size := ⟨_, rfl⟩
  have c1 := kx.cell
  have c2 := ky.cell
  go_wp2_with fail
  obtain ⟨w4, hw4⟩ : ∃ w4 : World, w4 = (w3.alloc (.cells #[.slice ao1 k1 cap1] 25)).alloc (.cells #[.slice ao2 k2 cap2] 25) := ⟨_, rfl⟩
  rw [← hw4] at b kx ky ⊢
  rw [← hR] at kx ky ⊢
  clear hw4 hR c1 c2
  replace hB := nextB hB b
  replace i1 := i1.below b
  replace i2 := i2.below b
  replace x1 := x1.below b
  replace x2 := x2.below b
  clear b
  refine (Mul_any ⟨_, rfl, x1⟩ ⟨_, rfl, x2⟩ L (by omega) (by rw [HL.out]; exact HM.out) (by rw [HL.out]; exact HN.out)).mono ?_
  rintro e w5 ⟨v3, rfl, iv, b⟩
  obtain ⟨ao3, k3, cap3, rfl, x3⟩ := iv.slice
  replace hB := nextB hB b
  replace i1 := i1.below b
  replace i2 := i2.below b
  clear b x1 x2 kx ky iv
  obtain ⟨b, kz⟩ := pro1 w5 (.slice ao3 k3 cap3)
  obtain ⟨R3, hR3⟩ : ∃ R, R = w5.heap.size := ⟨_, rfl⟩
  go_wp2_with fail
  obtain ⟨w6, hw6⟩ : ∃ w6 : World, w6 = w5.alloc (.cells #[.slice ao3 k3 cap3] 25) := ⟨_, rfl⟩
  rw [← hw6] at b kz ⊢
  rw [← hR3] at kz ⊢
  clear hw6 hR3
  replace hB := nextB hB b
  replace i1 := i1.below b
  replace i2 := i2.below b
  replace x3 := x3.below b
  clear b
  refine (mulR_any i1 i2 L (by omega) (by rw [HL.out]; exact HM.out) (by rw [HL.out]; exact HN.out)).mono ?_
  rintro e w7 ⟨v4, rfl, i4, b⟩
  replace hB := nextB hB b
  replace x3 := x3.below b
  replace kz := kz.below b
  clear b i1 i2
  have c0 := kz.cell
  have hlt := kz.lt
  have hfl : fitE (m * n) < 1000 := by unfold fitE; split <;> omega
  have HFL := Lib.hid hfl
  clear hfl
  have HFit := Lib.hid (fun (w' : World) (h : IsR w' v4 (m * n)) => fit_any h)
  generalize m * n = p at *
  generalize fitE p = er at *
  obtain ⟨wo, hwo⟩ : ∃ wo : World, wo = w7 := ⟨_, rfl⟩
  rw [← hwo] at hB x3 i4 kz c0 hlt ⊢
  clear hwo
  go_wp2
  go_region_held3 (fun w' => w'.cell? ⟨R3, 0, none⟩ = some (.slice ao3 k3 cap3) ∧ Below wo.heap.size wo w')
    (first
      | exact ⟨c0, (Below.refl _ _).drew⟩
      | (go_split_ands; exact ⟨((nextB (by assumption) b1).cell (p := ⟨R3, 0, none⟩) hlt).trans c0, nextB (by assumption) b1⟩)
      | (go_split_ands; exact ⟨((nextB (by assumption) b2).cell (p := ⟨R3, 0, none⟩) hlt).trans c0, nextB (by assumption) b2⟩)
      | (go_split_ands; exact ⟨((nextB (by assumption) b3).cell (p := ⟨R3, 0, none⟩) hlt).trans c0, nextB (by assumption) b3⟩))
    (first
      | (go_at_call 39; go_split_ands; refine (HFit.out _ (i4.below (by assumption))).mono ?_; rintro e w1 ⟨rfl, rfl⟩)
      | (go_at_call 34; go_split_ands; refine (told_any ⟨_, rfl, x3.below (by assumption)⟩ (i4.below (by assumption)) (fun _ => rfl) HFL.out (L + L) (by omega) HMN.out).mono ?_; rintro e w2 ⟨rfl, b2⟩)
      | (go_at_call 31; go_split_ands; refine (awake_any _).mono ?_; rintro e w3 ⟨rfl, b3⟩))
  go_split_ands
  have hC := nextB hB (by assumption)
  go_wp2
  go_ret
  exact ⟨rfl, hC⟩

end Go.Proofs.Ytppbhjhbaknidaa

/-
  The walks of the laws NatGcds, NatDivides. No condition.
-/
set_option linter.unusedVariables false
set_option linter.unusedSimpArgs false
namespace Go.Proofs.Ytppbhjhbaknidaa
open Go.RowKit

theorem gcd_lt_P2 {m n L : Nat} (hm : m < P2 L) (hn : n < P2 L) : Nat.gcd m n < P2 L := by
  by_cases h : m = 0
  · subst h; rw [Nat.gcd_zero_left]; exact hn
  · exact Nat.lt_of_le_of_lt (Nat.le_of_dvd (by omega) (Nat.gcd_dvd_left m n)) hm

set_option maxHeartbeats 1000000 in
set_option maxRecDepth 100000 in
theorem NatGcds_walk (va : Value) (vb : Value) (w : World) (ia : In16 w va) (ib : In16 w vb) :
    Calls Try.prog 5 #[va, vb] w (RetB w true) := by
  have hB := Below.refl w.heap.size w
  go_enter Try.func5, Try.ntmps5
  go_wp2_with fail
  refine (raw_any ia 40 (by omega)).mono ?_
  rintro e w1 ⟨c, hc, rc, rfl, icr, b⟩
  replace hB := nextB hB b
  replace ia := ia.below b
  replace ib := ib.below b
  clear b
  have Hc := Lib.hid hc
  clear hc
  go_wp2_with fail
  refine (raw_any ib 40 (by omega)).mono ?_
  rintro e w2 ⟨d, hd, rd, rfl, idr, b⟩
  replace hB := nextB hB b
  replace ia := ia.below b
  replace ib := ib.below b
  replace icr := icr.below b
  clear b
  have Hd := Lib.hid hd
  clear hd
  have Hc := Lib.hid (lt_P2_mono Hc.out (show 16 * 40 ≤ 16384 by omega))
  have Hd := Lib.hid (lt_P2_mono Hd.out (show 16 * 40 ≤ 16384 by omega))
  go_wp2_with fail
  refine (two_any icr idr Hc.out Hd.out).mono ?_
  rintro e w3 ⟨u1, u2, rfl, j1, j2, b⟩
  obtain ⟨aox, qx, capx, rfl, xx⟩ := j1.slice
  clear j1
  obtain ⟨aoy, qy, capy, rfl, xy⟩ := j2.slice
  clear j2
  replace hB := nextB hB b
  replace ia := ia.below b
  replace ib := ib.below b
  replace icr := icr.below b
  replace idr := idr.below b
  clear b
  obtain ⟨b, kx, ky⟩ := pro2 w3 (.slice aox qx capx) (.slice aoy qy capy)
  obtain ⟨Rx, hRx⟩ : ∃ R, R = w3.heap.size := ⟨_, rfl⟩
  have cc0 := kx.cell
  have cc1 := ky.cell
  go_wp2_with fail
  obtain ⟨w4, hw⟩ : ∃ w_ : World, w_ = ((w3.alloc (.cells #[.slice aox qx capx] 25)).alloc (.cells #[.slice aoy qy capy] 25)) := ⟨_, rfl⟩
  rw [← hw] at b kx ky ⊢
  rw [← hRx] at kx ky ⊢
  clear hw hRx cc0 cc1
  replace hB := nextB hB b
  replace ia := ia.below b
  replace ib := ib.below b
  replace icr := icr.below b
  replace idr := idr.below b
  replace xx := xx.below b
  replace xy := xy.below b
  clear b
  refine (gcdR_any icr idr 16384 (by omega) Hc.out Hd.out).mono ?_
  rintro e w5 ⟨rg, rfl, ig, b⟩
  replace hB := nextB hB b
  replace ia := ia.below b
  replace ib := ib.below b
  replace icr := icr.below b
  replace idr := idr.below b
  replace xx := xx.below b
  replace xy := xy.below b
  replace kx := kx.below b
  replace ky := ky.below b
  clear b
  have HGL : Hid (Nat.gcd c d < P2 16384) := Lib.hid (gcd_lt_P2 Hc.out Hd.out)
  have cc0 := kx.cell
  have cc1 := ky.cell
  go_wp2_with fail
  clear cc0 cc1
  refine (Gcd_any ⟨_, rfl, xx⟩ ⟨_, rfl, xy⟩ 16384 (by omega) Hc.out Hd.out).mono ?_
  rintro e w6 ⟨v1, rfl, j1, b⟩
  replace b := b
  replace hB := nextB hB b
  replace ia := ia.below b
  replace ib := ib.below b
  replace icr := icr.below b
  replace idr := idr.below b
  replace xx := xx.below b
  replace xy := xy.below b
  replace kx := kx.below b
  replace ky := ky.below b
  replace ig := ig.below b
  clear b
  have cc0 := kx.cell
  have cc1 := ky.cell
  go_wp2_with fail
  clear cc0 cc1
  refine (is_any j1 ig 16384 (by omega) HGL.out).mono ?_
  rintro e w7 ⟨rfl, b⟩
  replace hB := nextB hB b
  replace ia := ia.below b
  replace ib := ib.below b
  replace icr := icr.below b
  replace idr := idr.below b
  replace xx := xx.below b
  replace xy := xy.below b
  replace kx := kx.below b
  replace ky := ky.below b
  replace ig := ig.below b
  replace j1 := j1.below b
  clear b
  clear j1
  have cc0 := kx.cell
  have cc1 := ky.cell
  go_wp2_with fail
  clear cc0 cc1
  refine (Gcd_any ⟨_, rfl, xy⟩ ⟨_, rfl, xx⟩ 16384 (by omega) Hd.out Hc.out).mono ?_
  rintro e w8 ⟨v2, rfl, j2, b⟩
  rw [Nat.gcd_comm] at j2
  replace hB := nextB hB b
  replace ia := ia.below b
  replace ib := ib.below b
  replace icr := icr.below b
  replace idr := idr.below b
  replace xx := xx.below b
  replace xy := xy.below b
  replace kx := kx.below b
  replace ky := ky.below b
  replace ig := ig.below b
  clear b
  have cc0 := kx.cell
  have cc1 := ky.cell
  go_wp2_with fail
  clear cc0 cc1
  refine (is_any j2 ig 16384 (by omega) HGL.out).mono ?_
  rintro e w9 ⟨rfl, b⟩
  replace hB := nextB hB b
  replace ia := ia.below b
  replace ib := ib.below b
  replace icr := icr.below b
  replace idr := idr.below b
  replace xx := xx.below b
  replace xy := xy.below b
  replace kx := kx.below b
  replace ky := ky.below b
  replace ig := ig.below b
  replace j2 := j2.below b
  clear b
  have cc0 := kx.cell
  have cc1 := ky.cell
  go_wp2_with fail
  clear cc0 cc1
  refine (awake_any _).mono ?_
  rintro e w10 ⟨rfl, b⟩
  replace hB := nextB hB b
  replace ia := ia.below b
  replace ib := ib.below b
  replace icr := icr.below b
  replace idr := idr.below b
  replace xx := xx.below b
  replace xy := xy.below b
  replace kx := kx.below b
  replace ky := ky.below b
  replace ig := ig.below b
  replace j2 := j2.below b
  clear b
  go_wp2
  go_ret
  exact ⟨rfl, hB⟩

set_option maxHeartbeats 1000000 in
set_option maxRecDepth 100000 in
theorem NatDivides_walk (va : Value) (vb : Value) (w : World) (ia : In16 w va) (ib : In16 w vb) :
    Calls Try.prog 9 #[va, vb] w (RetB w true) := by
  have hB := Below.refl w.heap.size w
  go_enter Try.func9, Try.ntmps9
  go_wp2_with fail
  refine (raw_any ia 80 (by omega)).mono ?_
  rintro e w1 ⟨c, hc, rc, rfl, icr, b⟩
  replace hB := nextB hB b
  replace ia := ia.below b
  replace ib := ib.below b
  clear b
  have Hc := Lib.hid hc
  clear hc
  go_wp2_with fail
  refine (raw_any ib 80 (by omega)).mono ?_
  rintro e w2 ⟨d, hd, rd, rfl, idr, b⟩
  replace hB := nextB hB b
  replace ia := ia.below b
  replace ib := ib.below b
  replace icr := icr.below b
  clear b
  have Hd := Lib.hid hd
  clear hd
  have Hc := Lib.hid (lt_P2_mono Hc.out (show 16 * 80 ≤ 16384 by omega))
  have Hd := Lib.hid (lt_P2_mono Hd.out (show 16 * 80 ≤ 16384 by omega))
  go_wp2_with fail
  refine (two_any icr idr Hc.out Hd.out).mono ?_
  rintro e w3 ⟨u1, u2, rfl, j1, j2, b⟩
  obtain ⟨aox, qx, capx, rfl, xx⟩ := j1.slice
  clear j1
  obtain ⟨aoy, qy, capy, rfl, xy⟩ := j2.slice
  clear j2
  replace hB := nextB hB b
  replace ia := ia.below b
  replace ib := ib.below b
  replace icr := icr.below b
  replace idr := idr.below b
  clear b
  obtain ⟨b, kx, ky⟩ := pro2 w3 (.slice aox qx capx) (.slice aoy qy capy)
  obtain ⟨Rx, hRx⟩ : ∃ R, R = w3.heap.size := ⟨_, rfl⟩
  have cc0 := kx.cell
  have cc1 := ky.cell
  go_wp2_with fail
  obtain ⟨w4, hw⟩ : ∃ w_ : World, w_ = ((w3.alloc (.cells #[.slice aox qx capx] 25)).alloc (.cells #[.slice aoy qy capy] 25)) := ⟨_, rfl⟩
  rw [← hw] at b kx ky ⊢
  rw [← hRx] at kx ky ⊢
  clear hw hRx cc0 cc1
  replace hB := nextB hB b
  replace ia := ia.below b
  replace ib := ib.below b
  replace icr := icr.below b
  replace idr := idr.below b
  replace xx := xx.below b
  replace xy := xy.below b
  clear b
  by_cases hd0 : d = 0
  · subst hd0
    refine (DivMod_zero ⟨_, rfl, xx⟩ ⟨_, rfl, xy⟩).mono ?_
    rintro e w5 ⟨u1, u2, rfl, j1, j2, b⟩
    replace hB := nextB hB b
    replace ia := ia.below b
    replace ib := ib.below b
    replace icr := icr.below b
    replace idr := idr.below b
    replace xx := xx.below b
    replace xy := xy.below b
    replace kx := kx.below b
    replace ky := ky.below b
    clear b
    obtain ⟨aoz, qz, capz, rfl, xz⟩ := j1.slice
    clear j1
    obtain ⟨aov, qv, capv, rfl, xv⟩ := j2.slice
    clear j2
    obtain ⟨aod, qd, capd, rfl, hqd, -⟩ := idr.slice
    obtain rfl := hqd.2 rfl
    clear hqd
    obtain ⟨b, kz, kv⟩ := pro2 w5 (.slice aoz qz capz) (.slice aov qv capv)
    obtain ⟨Rz, hRz⟩ : ∃ R, R = w5.heap.size := ⟨_, rfl⟩
    have cc0 := (kx.below b).cell
    have cc1 := (ky.below b).cell
    have cc2 := kz.cell
    have cc3 := kv.cell
    go_wp2_with fail
    obtain ⟨w6, hw⟩ : ∃ w_ : World, w_ = ((w5.alloc (.cells #[.slice aoz qz capz] 25)).alloc (.cells #[.slice aov qv capv] 25)) := ⟨_, rfl⟩
    rw [← hw] at b kz kv ⊢
    rw [← hRz] at kz kv ⊢
    clear hw hRz cc0 cc1 cc2 cc3
    replace hB := nextB hB b
    replace ia := ia.below b
    replace ib := ib.below b
    replace icr := icr.below b
    replace idr := idr.below b
    replace xx := xx.below b
    replace xy := xy.below b
    replace kx := kx.below b
    replace ky := ky.below b
    replace xz := xz.below b
    replace xv := xv.below b
    clear b
    refine (told_err (er := 11) ⟨_, rfl, xz⟩ (by omega) (by omega) ⟨_, _, _, rfl⟩).mono ?_
    rintro e w7 ⟨rfl, b⟩
    replace hB := nextB hB b
    replace ia := ia.below b
    replace ib := ib.below b
    replace icr := icr.below b
    replace idr := idr.below b
    replace xx := xx.below b
    replace xy := xy.below b
    replace kx := kx.below b
    replace ky := ky.below b
    replace xz := xz.below b
    replace xv := xv.below b
    replace kz := kz.below b
    replace kv := kv.below b
    clear b
    have cc0 := kx.cell
    have cc1 := ky.cell
    have cc2 := kz.cell
    have cc3 := kv.cell
    go_wp2_with fail
    clear cc0 cc1 cc2 cc3
    refine (told_err (er := 11) ⟨_, rfl, xv⟩ (by omega) (by omega) ⟨_, _, _, rfl⟩).mono ?_
    rintro e w8 ⟨rfl, b⟩
    replace hB := nextB hB b
    replace ia := ia.below b
    replace ib := ib.below b
    replace icr := icr.below b
    replace idr := idr.below b
    replace xx := xx.below b
    replace xy := xy.below b
    replace kx := kx.below b
    replace ky := ky.below b
    replace xz := xz.below b
    replace xv := xv.below b
    replace kz := kz.below b
    replace kv := kv.below b
    clear b
    have cc0 := kx.cell
    have cc1 := ky.cell
    have cc2 := kz.cell
    have cc3 := kv.cell
    go_wp2_with fail
    clear cc0 cc1 cc2 cc3
    refine (awake_any _).mono ?_
    rintro e w9 ⟨rfl, b⟩
    replace hB := nextB hB b
    replace ia := ia.below b
    replace ib := ib.below b
    replace icr := icr.below b
    replace idr := idr.below b
    replace xx := xx.below b
    replace xy := xy.below b
    replace kx := kx.below b
    replace ky := ky.below b
    replace xz := xz.below b
    replace xv := xv.below b
    replace kz := kz.below b
    replace kv := kv.below b
    clear b
    go_wp2
    go_ret
    exact ⟨rfl, hB⟩
  · have hd1 : 0 < d := Nat.pos_of_ne_zero hd0
    clear hd0
    refine (DivMod_any ⟨_, rfl, xx⟩ ⟨_, rfl, xy⟩ hd1 16384 (by omega) Hc.out).mono ?_
    rintro e w5 ⟨u1, u2, rfl, j1, j2, b⟩
    replace hB := nextB hB b
    replace ia := ia.below b
    replace ib := ib.below b
    replace icr := icr.below b
    replace idr := idr.below b
    replace xx := xx.below b
    replace xy := xy.below b
    replace kx := kx.below b
    replace ky := ky.below b
    clear b
    obtain ⟨aoz, qz, capz, rfl, xz⟩ := j1.slice
    clear j1
    obtain ⟨aov, qv, capv, rfl, xv⟩ := j2.slice
    clear j2
    obtain ⟨aod, qd, capd, rfl, hqd, -⟩ := idr.slice
    have hqd0 : ((qd : Int) == 0) = false := by rw [beq_eq_false_iff_ne]; intro hc; have := hqd.1 (by omega); omega
    clear hqd
    have HQ := Lib.hid (Nat.lt_of_le_of_lt (Nat.div_le_self c d) Hc.out)
    have HR := Lib.hid (Nat.lt_trans (Nat.mod_lt c hd1) Hd.out)
    obtain ⟨b, kz, kv⟩ := pro2 w5 (.slice aoz qz capz) (.slice aov qv capv)
    obtain ⟨Rz, hRz⟩ : ∃ R, R = w5.heap.size := ⟨_, rfl⟩
    have cc0 := (kx.below b).cell
    have cc1 := (ky.below b).cell
    have cc2 := kz.cell
    have cc3 := kv.cell
    go_wp2_with fail
    obtain ⟨w6, hw⟩ : ∃ w_ : World, w_ = ((w5.alloc (.cells #[.slice aoz qz capz] 25)).alloc (.cells #[.slice aov qv capv] 25)) := ⟨_, rfl⟩
    rw [← hw] at b kz kv ⊢
    rw [← hRz] at kz kv ⊢
    clear hw hRz cc0 cc1 cc2 cc3
    replace hB := nextB hB b
    replace ia := ia.below b
    replace ib := ib.below b
    replace icr := icr.below b
    replace idr := idr.below b
    replace xx := xx.below b
    replace xy := xy.below b
    replace kx := kx.below b
    replace ky := ky.below b
    replace xz := xz.below b
    replace xv := xv.below b
    clear b
    refine (divModR_any icr idr hd1 16384 (by omega) Hc.out Hd.out).mono ?_
    rintro e w7 ⟨r1, r2, rfl, i1, i2, b⟩
    replace hB := nextB hB b
    replace ia := ia.below b
    replace ib := ib.below b
    replace icr := icr.below b
    replace idr := idr.below b
    replace xx := xx.below b
    replace xy := xy.below b
    replace kx := kx.below b
    replace ky := ky.below b
    replace xz := xz.below b
    replace xv := xv.below b
    replace kz := kz.below b
    replace kv := kv.below b
    clear b
    have cc0 := kx.cell
    have cc1 := ky.cell
    have cc2 := kz.cell
    have cc3 := kv.cell
    go_wp2_with fail
    clear cc0 cc1 cc2 cc3
    refine (told_ok ⟨_, rfl, xz⟩ i1 16384 (by omega) HQ.out).mono ?_
    rintro e w8 ⟨rfl, b⟩
    replace hB := nextB hB b
    replace ia := ia.below b
    replace ib := ib.below b
    replace icr := icr.below b
    replace idr := idr.below b
    replace xx := xx.below b
    replace xy := xy.below b
    replace kx := kx.below b
    replace ky := ky.below b
    replace xz := xz.below b
    replace xv := xv.below b
    replace kz := kz.below b
    replace kv := kv.below b
    replace i1 := i1.below b
    replace i2 := i2.below b
    clear b
    have cc0 := kx.cell
    have cc1 := ky.cell
    have cc2 := kz.cell
    have cc3 := kv.cell
    go_wp2_with fail
    clear cc0 cc1 cc2 cc3
    refine (told_ok ⟨_, rfl, xv⟩ i2 16384 (by omega) HR.out).mono ?_
    rintro e w9 ⟨rfl, b⟩
    replace hB := nextB hB b
    replace ia := ia.below b
    replace ib := ib.below b
    replace icr := icr.below b
    replace idr := idr.below b
    replace xx := xx.below b
    replace xy := xy.below b
    replace kx := kx.below b
    replace ky := ky.below b
    replace xz := xz.below b
    replace xv := xv.below b
    replace kz := kz.below b
    replace kv := kv.below b
    replace i1 := i1.below b
    replace i2 := i2.below b
    clear b
    have cc0 := kx.cell
    have cc1 := ky.cell
    have cc2 := kz.cell
    have cc3 := kv.cell
    go_wp2_with fail
    clear cc0 cc1 cc2 cc3
    refine (awake_any _).mono ?_
    rintro e w10 ⟨rfl, b⟩
    replace hB := nextB hB b
    replace ia := ia.below b
    replace ib := ib.below b
    replace icr := icr.below b
    replace idr := idr.below b
    replace xx := xx.below b
    replace xy := xy.below b
    replace kx := kx.below b
    replace ky := ky.below b
    replace xz := xz.below b
    replace xv := xv.below b
    replace kz := kz.below b
    replace kv := kv.below b
    replace i1 := i1.below b
    replace i2 := i2.below b
    clear b
    go_wp2
    go_ret
    exact ⟨rfl, hB⟩

end Go.Proofs.Ytppbhjhbaknidaa

/-
  The walks of the laws NatNew, NatBinomials, NatPascal, NatRoots. No condition.
-/
set_option linter.unusedVariables false
set_option linter.unusedSimpArgs false
namespace Go.Proofs.Ytppbhjhbaknidaa
open Go.RowKit

theorem sq_ge (s : Nat) : s ≤ s * s := by
  rcases Nat.eq_zero_or_pos s with h | h
  · omega
  · exact Nat.le_mul_of_pos_left _ h
theorem cmpI_le {m n : Nat} (h : m ≤ n) : cmpI m n ≤ 0 := by
  unfold cmpI
  by_cases h1 : m < n
  · rw [if_pos h1]; omega
  · rw [if_neg h1, if_neg (by omega)]; omega
theorem cmpI_gt {m n : Nat} (h : n < m) : cmpI m n = 1 := by
  unfold cmpI
  rw [if_neg (by omega), if_pos h]

set_option maxHeartbeats 1000000 in
set_option maxRecDepth 100000 in
theorem NatNew_walk (n : Int) (w : World) (hnr : -9223372036854775808 ≤ n ∧ n ≤ 9223372036854775807) :
    Calls Try.prog 13 #[.int .i64 n] w (RetB w true) := by
  have hB := Below.refl w.heap.size w
  by_cases hn0 : n < 0
  · go_enter Try.func13, Try.ntmps13
    go_wp2_with fail
    refine (New_neg n hn0 (by omega)).mono ?_
    rintro e w1 ⟨v_, rfl, j_, b⟩
    replace hB := nextB hB b
    clear b
    rw [if_neg (by omega)] at j_
    obtain ⟨aox, qx, capx, rfl, xx⟩ := j_.slice
    clear j_
    obtain ⟨b, kx⟩ := pro1 w1 (.slice aox qx capx)
    obtain ⟨Rx, hRx⟩ : ∃ R, R = w1.heap.size := ⟨_, rfl⟩
    have cc0 := kx.cell
    go_wp2_with fail
    obtain ⟨w2, hw⟩ : ∃ w_ : World, w_ = (w1.alloc (.cells #[.slice aox qx capx] 25)) := ⟨_, rfl⟩
    rw [← hw] at b kx ⊢
    rw [← hRx] at kx ⊢
    clear hw hRx cc0
    replace hB := nextB hB b
    replace xx := xx.below b
    clear b
    refine (told_err (er := 2) ⟨_, rfl, xx⟩ (by omega) (by omega) ⟨_, _, _, rfl⟩).mono ?_
    rintro e w3 ⟨rfl, b⟩
    replace hB := nextB hB b
    replace xx := xx.below b
    replace kx := kx.below b
    clear b
    have cc0 := kx.cell
    go_wp2_with fail
    clear cc0
    refine (awake_any _).mono ?_
    rintro e w4 ⟨rfl, b⟩
    replace hB := nextB hB b
    replace xx := xx.below b
    replace kx := kx.below b
    clear b
    go_wp2
    go_ret
    exact ⟨rfl, hB⟩
  · obtain ⟨n, rfl⟩ := Int.eq_ofNat_of_zero_le (show 0 ≤ n by omega)
    have hn : n < 9223372036854775808 := by omega
    have hd0 : decide ((n : Int) < 0) = false := decide_eq_false hn0
    clear hn0
    have HN : Hid (n < P2 63) := Lib.hid hn
    have E1 : Hid (intN n = n) := Lib.hid (if_pos hn)
    have E2 : Hid (intB n = true) := Lib.hid (decide_eq_true hn)
    have HO := Lib.hid (fun w_ => of_any n hn w_)
    have HNew := Lib.hid (fun w_ => New_any (w := w_) n hn)
    clear hn hnr
    go_enter Try.func13, Try.ntmps13
    go_wp2_with fail
    refine (HNew.out _).mono ?_
    rintro e w1 ⟨v_, rfl, j_, b⟩
    replace hB := nextB hB b
    clear b
    rw [if_pos rfl] at j_
    obtain ⟨aox, qx, capx, rfl, xx⟩ := j_.slice
    clear j_
    obtain ⟨b, kx⟩ := pro1 w1 (.slice aox qx capx)
    obtain ⟨Rx, hRx⟩ : ∃ R, R = w1.heap.size := ⟨_, rfl⟩
    have cc0 := kx.cell
    go_wp2_with fail
    obtain ⟨w2, hw⟩ : ∃ w_ : World, w_ = (w1.alloc (.cells #[.slice aox qx capx] 25)) := ⟨_, rfl⟩
    rw [← hw] at b kx ⊢
    rw [← hRx] at kx ⊢
    clear hw hRx cc0
    replace hB := nextB hB b
    replace xx := xx.below b
    clear b
    refine (Int_any ⟨_, rfl, xx⟩ 63 (by omega) HN.out).mono ?_
    rintro e w3 ⟨rfl, b⟩
    rw [E1.out, E2.out]
    replace hB := nextB hB b
    replace xx := xx.below b
    replace kx := kx.below b
    clear b
    obtain ⟨wo, hwo⟩ : ∃ wo : World, wo = w3 := ⟨_, rfl⟩
    rw [← hwo] at hB xx kx ⊢
    clear hwo
    have cc0 := kx.cell
    have ltx := kx.lt
    go_wp2
    go_region_held3 (fun w' => w'.cell? ⟨Rx, 0, none⟩ = some (.slice aox qx capx) ∧ Below wo.heap.size wo w')
      (first
        | exact ⟨cc0, (Below.refl _ _).drew⟩
        | (go_split_ands; exact ⟨by assumption, by assumption⟩)
        | (go_split_ands; have hk := nextB (by assumption) bb; exact ⟨(hk.cell (p := ⟨Rx, 0, none⟩) ltx).trans cc0, hk⟩))
      (first
        | (go_at_call 67; go_split_ands; refine (HO.out _).mono ?_; rintro e wq ⟨vr, rfl, ir, bb⟩)
        | (go_at_call 34; go_split_ands; refine (told_ok ⟨_, rfl, xx.below (by assumption)⟩ (by assumption) 63 (by omega) HN.out).mono ?_; rintro e wq ⟨rfl, bb⟩)
        | (go_at_call 61; go_split_ands; refine (BitLen_any ⟨_, rfl, xx.below (by assumption)⟩ 63 (by omega) HN.out).mono ?_; rintro e wq ⟨rfl, bb⟩)
        | (go_at_call 68; go_split_ands; refine (bitLenR_any (by assumption)).mono ?_; rintro e wq ⟨rfl, rfl⟩)
        | (go_at_call 31; go_split_ands; refine (awake_any _).mono ?_; rintro e wq ⟨rfl, bb⟩))
    go_split_ands
    have hC := nextB hB (by assumption)
    go_wp2
    go_ret
    exact ⟨rfl, hC⟩

set_option maxHeartbeats 1000000 in
set_option maxRecDepth 100000 in
theorem NatBinomials_walk (n : Int) (k : Int) (w : World) (hnr : -9223372036854775808 ≤ n ∧ n ≤ 9223372036854775807) (hkr : -9223372036854775808 ≤ k ∧ k ≤ 9223372036854775807) :
    Calls Try.prog 14 #[.int .i64 n, .int .i64 k] w (RetB w true) := by
  have hB := Below.refl w.heap.size w
  by_cases hb : n < 0 ∨ 4096 < n ∨ k < 0
  · have HE := Lib.hid (fun w_ => Binomial_err (w := w_) n k hb)
    have hc : n < 0 ∨ (¬ n < 0 ∧ 4096 < n) ∨ (¬ n < 0 ∧ ¬ 4096 < n ∧ k < 0) := by omega
    clear hb
    rcases hc with h1 | ⟨h1, h2⟩ | ⟨h1, h2, h3⟩
    all_goals
      go_enter Try.func14, Try.ntmps14
      go_wp2_with fail
      refine (HE.out _).mono ?_
      rintro e w1 ⟨v_, rfl, j_, b⟩
      replace hB := nextB hB b
      clear b
      rw [if_neg (by omega)] at j_
      obtain ⟨aox, qx, capx, rfl, xx⟩ := j_.slice
      clear j_
      obtain ⟨b, kx⟩ := pro1 w1 (.slice aox qx capx)
      obtain ⟨Rx, hRx⟩ : ∃ R, R = w1.heap.size := ⟨_, rfl⟩
      have cc0 := kx.cell
      go_wp2_with fail
      obtain ⟨w2, hw⟩ : ∃ w_ : World, w_ = (w1.alloc (.cells #[.slice aox qx capx] 25)) := ⟨_, rfl⟩
      rw [← hw] at b kx ⊢
      rw [← hRx] at kx ⊢
      clear hw hRx cc0
      replace hB := nextB hB b
      replace xx := xx.below b
      clear b
      refine (told_err (er := 2) ⟨_, rfl, xx⟩ (by omega) (by omega) ⟨_, _, _, rfl⟩).mono ?_
      rintro e w3 ⟨rfl, b⟩
      replace hB := nextB hB b
      replace xx := xx.below b
      replace kx := kx.below b
      clear b
      have cc0 := kx.cell
      go_wp2_with fail
      clear cc0
      refine (awake_any _).mono ?_
      rintro e w4 ⟨rfl, b⟩
      replace hB := nextB hB b
      replace xx := xx.below b
      replace kx := kx.below b
      clear b
      go_wp2
      go_ret
      exact ⟨rfl, hB⟩
  · obtain ⟨n, rfl⟩ := Int.eq_ofNat_of_zero_le (show 0 ≤ n by omega)
    obtain ⟨k, rfl⟩ := Int.eq_ofNat_of_zero_le (show 0 ≤ k by omega)
    have hn : n ≤ 4096 := by omega
    have hk : k < 9223372036854775808 := by omega
    have HB := Lib.hid (fun w_ => Binomial_any (w := w_) n k hn hk)
    have HR := Lib.hid (fun w_ => binomialR_any (w := w_) n k hn hk)
    have HL := Lib.hid (binom_P2 n k hn)
    clear hb hnr hkr hk
    go_enter Try.func14, Try.ntmps14
    go_wp2_with fail
    refine (HB.out _).mono ?_
    rintro e w1 ⟨v_, rfl, j_, b⟩
    replace hB := nextB hB b
    clear b
    rw [if_pos rfl] at j_
    obtain ⟨aox, qx, capx, rfl, xx⟩ := j_.slice
    clear j_
    obtain ⟨b, kx⟩ := pro1 w1 (.slice aox qx capx)
    obtain ⟨Rx, hRx⟩ : ∃ R, R = w1.heap.size := ⟨_, rfl⟩
    have cc0 := kx.cell
    go_wp2_with fail
    obtain ⟨w2, hw⟩ : ∃ w_ : World, w_ = (w1.alloc (.cells #[.slice aox qx capx] 25)) := ⟨_, rfl⟩
    rw [← hw] at b kx ⊢
    rw [← hRx] at kx ⊢
    clear hw hRx cc0
    replace hB := nextB hB b
    replace xx := xx.below b
    clear b
    obtain ⟨wo, hwo⟩ : ∃ wo : World, wo = w2 := ⟨_, rfl⟩
    rw [← hwo] at hB xx kx ⊢
    clear hwo
    have cc0 := kx.cell
    have ltx := kx.lt
    go_wp2
    go_region_held3 (fun w' => w'.cell? ⟨Rx, 0, none⟩ = some (.slice aox qx capx) ∧ Below wo.heap.size wo w')
      (first
        | exact ⟨cc0, (Below.refl _ _).drew⟩
        | (go_split_ands; exact ⟨by assumption, by assumption⟩)
        | (go_split_ands; have hk := nextB (by assumption) bb; exact ⟨(hk.cell (p := ⟨Rx, 0, none⟩) ltx).trans cc0, hk⟩))
      (first
        | (go_at_call 70; go_split_ands; refine (HR.out _).mono ?_; rintro e wq ⟨vr, rfl, ir, bb⟩)
        | (go_at_call 34; go_split_ands; refine (told_ok ⟨_, rfl, xx.below (by assumption)⟩ (by assumption) 4097 (by omega) HL.out).mono ?_; rintro e wq ⟨rfl, bb⟩)
        | (go_at_call 31; go_split_ands; refine (awake_any _).mono ?_; rintro e wq ⟨rfl, bb⟩))
    go_split_ands
    have hC := nextB hB (by assumption)
    go_wp2
    go_ret
    exact ⟨rfl, hC⟩

set_option maxHeartbeats 1000000 in
set_option maxRecDepth 100000 in
theorem NatPascal_walk (n : Int) (k : Int) (w : World) (hnr : -9223372036854775808 ≤ n ∧ n ≤ 9223372036854775807) (hkr : -9223372036854775808 ≤ k ∧ k ≤ 9223372036854775807) :
    Calls Try.prog 16 #[.int .i64 n, .int .i64 k] w (RetB w true) := by
  have hB := Below.refl w.heap.size w
  by_cases hb : n < 0 ∨ 4096 ≤ n ∨ k < 0 ∨ 4096 < k
  · have hc : n < 0 ∨ (¬ n < 0 ∧ 4096 ≤ n) ∨ (¬ n < 0 ∧ ¬ 4096 ≤ n ∧ k < 0) ∨ (¬ n < 0 ∧ ¬ 4096 ≤ n ∧ ¬ k < 0 ∧ 4096 < k) := by omega
    clear hb
    rcases hc with h1 | ⟨h1, h2⟩ | ⟨h1, h2, h3⟩ | ⟨h1, h2, h3, h4⟩
    all_goals
      go_enter Try.func16, Try.ntmps16
      go_wp2_with fail
      refine (awake_any _).mono ?_
      rintro e w1 ⟨rfl, b⟩
      replace hB := nextB hB b
      clear b
      go_wp2
      go_ret
      exact ⟨rfl, hB⟩
  · obtain ⟨n, rfl⟩ := Int.eq_ofNat_of_zero_le (show 0 ≤ n by omega)
    obtain ⟨k, rfl⟩ := Int.eq_ofNat_of_zero_le (show 0 ≤ k by omega)
    have hn : n < 4096 := by omega
    have hk : k ≤ 4096 := by omega
    have HB1 : Hid (∀ w_, Calls Try.prog 69 #[.int .i64 ((n : Int) + 1), .int .i64 ((k : Int) + 1)] w_ (RetE w_ (binom (n + 1) (k + 1)) 0)) := Lib.hid (fun w_ => Binomial_any (w := w_) (n + 1) (k + 1) (by omega) (by omega))
    have HB2 := Lib.hid (fun w_ => Binomial_any (w := w_) n k (by omega) (by omega))
    have HB3 : Hid (∀ w_, Calls Try.prog 69 #[.int .i64 (n : Int), .int .i64 ((k : Int) + 1)] w_ (RetE w_ (binom n (k + 1)) 0)) := Lib.hid (fun w_ => Binomial_any (w := w_) n (k + 1) (by omega) (by omega))
    have HL2 := Lib.hid (binom_P2 n k (by omega))
    have HL3 := Lib.hid (binom_P2 n (k + 1) (by omega))
    have HF : Hid (fitE (binom n k + binom n (k + 1)) = 0) := Lib.hid (if_pos (lt_P2_mono (add_lt_P2 HL2.out HL3.out) (by omega)))
    have HS := Lib.hid (binom_succ n k)
    clear hb hnr hkr
    go_enter Try.func16, Try.ntmps16
    go_wp2_with fail
    refine (HB1.out _).mono ?_
    rintro e w1 ⟨v_, rfl, j_, b⟩
    replace hB := nextB hB b
    clear b
    rw [if_pos rfl] at j_
    obtain ⟨aox, qx, capx, rfl, xx⟩ := j_.slice
    clear j_
    obtain ⟨b, kx⟩ := pro1 w1 (.slice aox qx capx)
    obtain ⟨Rx, hRx⟩ : ∃ R, R = w1.heap.size := ⟨_, rfl⟩
    have cc0 := kx.cell
    go_wp2_with fail
    obtain ⟨w2, hw⟩ : ∃ w_ : World, w_ = (w1.alloc (.cells #[.slice aox qx capx] 25)) := ⟨_, rfl⟩
    rw [← hw] at b kx ⊢
    rw [← hRx] at kx ⊢
    clear hw hRx cc0
    replace hB := nextB hB b
    replace xx := xx.below b
    clear b
    refine (HB2.out _).mono ?_
    rintro e w3 ⟨v_, rfl, j_, b⟩
    replace hB := nextB hB b
    replace xx := xx.below b
    replace kx := kx.below b
    clear b
    rw [if_pos rfl] at j_
    obtain ⟨aoy, qy, capy, rfl, xy⟩ := j_.slice
    clear j_
    obtain ⟨b, ky⟩ := pro1 w3 (.slice aoy qy capy)
    obtain ⟨Ry, hRy⟩ : ∃ R, R = w3.heap.size := ⟨_, rfl⟩
    have cc0 := (kx.below b).cell
    have cc1 := ky.cell
    go_wp2_with fail
    obtain ⟨w4, hw⟩ : ∃ w_ : World, w_ = (w3.alloc (.cells #[.slice aoy qy capy] 25)) := ⟨_, rfl⟩
    rw [← hw] at b ky ⊢
    rw [← hRy] at ky ⊢
    clear hw hRy cc0 cc1
    replace hB := nextB hB b
    replace xx := xx.below b
    replace kx := kx.below b
    replace xy := xy.below b
    clear b
    refine (HB3.out _).mono ?_
    rintro e w5 ⟨v_, rfl, j_, b⟩
    replace hB := nextB hB b
    replace xx := xx.below b
    replace kx := kx.below b
    replace xy := xy.below b
    replace ky := ky.below b
    clear b
    rw [if_pos rfl] at j_
    obtain ⟨aoz, qz, capz, rfl, xz⟩ := j_.slice
    clear j_
    obtain ⟨b, kz⟩ := pro1 w5 (.slice aoz qz capz)
    obtain ⟨Rz, hRz⟩ : ∃ R, R = w5.heap.size := ⟨_, rfl⟩
    have cc0 := (kx.below b).cell
    have cc1 := (ky.below b).cell
    have cc2 := kz.cell
    go_wp2_with fail
    obtain ⟨w6, hw⟩ : ∃ w_ : World, w_ = (w5.alloc (.cells #[.slice aoz qz capz] 25)) := ⟨_, rfl⟩
    rw [← hw] at b kz ⊢
    rw [← hRz] at kz ⊢
    clear hw hRz cc0 cc1 cc2
    replace hB := nextB hB b
    replace xx := xx.below b
    replace kx := kx.below b
    replace xy := xy.below b
    replace ky := ky.below b
    replace xz := xz.below b
    clear b
    refine (Add_any ⟨_, rfl, xy⟩ ⟨_, rfl, xz⟩ 4097 (by omega) HL2.out HL3.out).mono ?_
    rintro e w7 ⟨v_, rfl, j_, b⟩
    rw [HF.out, if_pos rfl, ← HS.out] at j_
    rw [HF.out]
    replace hB := nextB hB b
    replace xx := xx.below b
    replace kx := kx.below b
    replace xy := xy.below b
    replace ky := ky.below b
    replace xz := xz.below b
    replace kz := kz.below b
    clear b
    obtain ⟨aos, qs, caps, rfl, xs⟩ := j_.slice
    clear j_
    obtain ⟨b, ks⟩ := pro1 w7 (.slice aos qs caps)
    obtain ⟨Rs, hRs⟩ : ∃ R, R = w7.heap.size := ⟨_, rfl⟩
    have cc0 := (kx.below b).cell
    have cc1 := (ky.below b).cell
    have cc2 := (kz.below b).cell
    have cc3 := ks.cell
    go_wp2_with fail
    obtain ⟨w8, hw⟩ : ∃ w_ : World, w_ = (w7.alloc (.cells #[.slice aos qs caps] 25)) := ⟨_, rfl⟩
    rw [← hw] at b ks ⊢
    rw [← hRs] at ks ⊢
    clear hw hRs cc0 cc1 cc2 cc3
    replace hB := nextB hB b
    replace xx := xx.below b
    replace kx := kx.below b
    replace xy := xy.below b
    replace ky := ky.below b
    replace xz := xz.below b
    replace kz := kz.below b
    replace xs := xs.below b
    clear b
    refine (Cmp_any ⟨_, rfl, xx⟩ ⟨_, rfl, xs⟩).mono ?_
    rintro e w9 ⟨rfl, b⟩
    rw [cmpI_self]
    replace hB := nextB hB b
    replace xx := xx.below b
    replace kx := kx.below b
    replace xy := xy.below b
    replace ky := ky.below b
    replace xz := xz.below b
    replace kz := kz.below b
    replace xs := xs.below b
    replace ks := ks.below b
    clear b
    have cc0 := kx.cell
    have cc1 := ky.cell
    have cc2 := kz.cell
    have cc3 := ks.cell
    go_wp2_with fail
    clear cc0 cc1 cc2 cc3
    refine (awake_any _).mono ?_
    rintro e w10 ⟨rfl, b⟩
    replace hB := nextB hB b
    replace xx := xx.below b
    replace kx := kx.below b
    replace xy := xy.below b
    replace ky := ky.below b
    replace xz := xz.below b
    replace kz := kz.below b
    replace xs := xs.below b
    replace ks := ks.below b
    clear b
    go_wp2
    go_ret
    exact ⟨rfl, hB⟩

set_option maxHeartbeats 1000000 in
set_option maxRecDepth 100000 in
theorem NatRoots_walk (va : Value) (w : World) (ia : In16 w va) :
    Calls Try.prog 15 #[va] w (RetB w true) := by
  have hB := Below.refl w.heap.size w
  go_enter Try.func15, Try.ntmps15
  go_wp2_with fail
  refine (raw_any ia 64 (by omega)).mono ?_
  rintro e w1 ⟨c, hc, rc, rfl, icr, b⟩
  replace hB := nextB hB b
  replace ia := ia.below b
  clear b
  have Hc := Lib.hid hc
  clear hc
  have Hc := Lib.hid (lt_P2_mono Hc.out (show 16 * 64 ≤ 16384 by omega))
  go_wp2_with fail
  refine (made_any icr Hc.out).mono ?_
  rintro e w2 ⟨v_, rfl, j_, b⟩
  obtain ⟨aox, qx, capx, rfl, xx⟩ := j_.slice
  clear j_
  replace hB := nextB hB b
  replace ia := ia.below b
  replace icr := icr.below b
  clear b
  obtain ⟨b, kx⟩ := pro1 w2 (.slice aox qx capx)
  obtain ⟨Rx, hRx⟩ : ∃ R, R = w2.heap.size := ⟨_, rfl⟩
  have cc0 := kx.cell
  go_wp2_with fail
  obtain ⟨w3, hw⟩ : ∃ w_ : World, w_ = (w2.alloc (.cells #[.slice aox qx capx] 25)) := ⟨_, rfl⟩
  rw [← hw] at b kx ⊢
  rw [← hRx] at kx ⊢
  clear hw hRx cc0
  replace hB := nextB hB b
  replace ia := ia.below b
  replace icr := icr.below b
  replace xx := xx.below b
  clear b
  refine (Sqrt_any ⟨_, rfl, xx⟩ 16384 (by omega) Hc.out).mono ?_
  rintro e w4 ⟨s, hs, v_, rfl, j_, b⟩
  replace hB := nextB hB b
  replace ia := ia.below b
  replace icr := icr.below b
  replace xx := xx.below b
  replace kx := kx.below b
  clear b
  obtain ⟨aos, qs, caps, rfl, xs⟩ := j_.slice
  clear j_
  have h1 := sq_ge s
  have HS : Hid (s < P2 16384) := Lib.hid (Nat.lt_of_le_of_lt (Nat.le_trans h1 hs.1) Hc.out)
  have HS1 : Hid (s < P2 16385) := Lib.hid (lt_P2_mono HS.out (by omega))
  have HSS := Lib.hid hs
  have H1 : Hid (1 < P2 16385) := Lib.hid (by have := P2_mono (show 1 ≤ 16385 by omega); have e : P2 1 = 2 := rfl; omega)
  have HN : Hid (s + 1 < P2 16386) := Lib.hid (add_lt_P2 HS1.out H1.out)
  clear hs h1
  have cc0 := kx.cell
  go_wp2_with fail
  clear cc0
  refine (String_any ⟨_, rfl, xs⟩ 16384 (by omega) HS.out).mono ?_
  rintro e w5 ⟨rfl, b⟩
  replace hB := nextB hB b
  replace ia := ia.below b
  replace icr := icr.below b
  replace xx := xx.below b
  replace kx := kx.below b
  replace xs := xs.below b
  clear b
  have cc0 := kx.cell
  go_wp2_with fail
  clear cc0
  refine (parseR_any (txt s) _ (txt_sz HS.out)).mono ?_
  rintro e w6 ⟨v1, rfl, i1, b⟩
  rw [parseE_txt HS.out, numOf_txt, if_pos rfl] at i1
  rw [parseE_txt HS.out]
  replace hB := nextB hB b
  replace ia := ia.below b
  replace icr := icr.below b
  replace xx := xx.below b
  replace kx := kx.below b
  replace xs := xs.below b
  clear b
  have cc0 := kx.cell
  go_wp2_with fail
  clear cc0
  refine (of_any 1 (by omega) _).mono ?_
  rintro e w7 ⟨v2, rfl, i2, b⟩
  replace hB := nextB hB b
  replace ia := ia.below b
  replace icr := icr.below b
  replace xx := xx.below b
  replace kx := kx.below b
  replace xs := xs.below b
  replace i1 := i1.below b
  clear b
  have cc0 := kx.cell
  go_wp2_with fail
  clear cc0
  refine (addR_any i1 i2 16385 (by omega) HS1.out H1.out).mono ?_
  rintro e w8 ⟨v3, rfl, i3, b⟩
  replace hB := nextB hB b
  replace ia := ia.below b
  replace icr := icr.below b
  replace xx := xx.below b
  replace kx := kx.below b
  replace xs := xs.below b
  replace i1 := i1.below b
  replace i2 := i2.below b
  clear b
  have cc0 := kx.cell
  go_wp2_with fail
  clear cc0
  refine (mulR_any i1 i1 16384 (by omega) HS.out HS.out).mono ?_
  rintro e w9 ⟨v4, rfl, i4, b⟩
  replace hB := nextB hB b
  replace ia := ia.below b
  replace icr := icr.below b
  replace xx := xx.below b
  replace kx := kx.below b
  replace xs := xs.below b
  replace i1 := i1.below b
  replace i2 := i2.below b
  replace i3 := i3.below b
  clear b
  have cc0 := kx.cell
  go_wp2_with fail
  clear cc0
  refine (cmpR_any i4 icr).mono ?_
  rintro e w10 ⟨rfl, b⟩
  have hz := cmpI_le HSS.out.1
  generalize cmpI (s * s) c = z at hz ⊢
  have hd : decide (z ≤ 0) = true := decide_eq_true hz
  replace hB := nextB hB b
  replace ia := ia.below b
  replace icr := icr.below b
  replace xx := xx.below b
  replace kx := kx.below b
  replace xs := xs.below b
  replace i1 := i1.below b
  replace i2 := i2.below b
  replace i3 := i3.below b
  replace i4 := i4.below b
  clear b
  have cc0 := kx.cell
  go_wp2_with fail
  clear cc0
  refine (mulR_any i3 i3 16386 (by omega) HN.out HN.out).mono ?_
  rintro e w11 ⟨v5, rfl, i5, b⟩
  replace hB := nextB hB b
  replace ia := ia.below b
  replace icr := icr.below b
  replace xx := xx.below b
  replace kx := kx.below b
  replace xs := xs.below b
  replace i1 := i1.below b
  replace i2 := i2.below b
  replace i3 := i3.below b
  replace i4 := i4.below b
  clear b
  have cc0 := kx.cell
  go_wp2_with fail
  clear cc0
  refine (cmpR_any i5 icr).mono ?_
  rintro e w12 ⟨rfl, b⟩
  rw [cmpI_gt HSS.out.2]
  replace hB := nextB hB b
  replace ia := ia.below b
  replace icr := icr.below b
  replace xx := xx.below b
  replace kx := kx.below b
  replace xs := xs.below b
  replace i1 := i1.below b
  replace i2 := i2.below b
  replace i3 := i3.below b
  replace i4 := i4.below b
  replace i5 := i5.below b
  clear b
  have cc0 := kx.cell
  go_wp2_with fail
  clear cc0
  refine (awake_any _).mono ?_
  rintro e w13 ⟨rfl, b⟩
  replace hB := nextB hB b
  replace ia := ia.below b
  replace icr := icr.below b
  replace xx := xx.below b
  replace kx := kx.below b
  replace xs := xs.below b
  replace i1 := i1.below b
  replace i2 := i2.below b
  replace i3 := i3.below b
  replace i4 := i4.below b
  replace i5 := i5.below b
  clear b
  go_wp2
  go_ret
  exact ⟨rfl, hB⟩

end Go.Proofs.Ytppbhjhbaknidaa
