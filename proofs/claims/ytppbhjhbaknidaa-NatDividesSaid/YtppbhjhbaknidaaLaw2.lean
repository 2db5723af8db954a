/-
  The walks of the laws NatGcds, NatDivides. No condition.
-/
import Derived.Test.YtppbhjhbaknidaaLaw1
import Derived.Test.YtppbhjhbaknidaaRefK
set_option linter.unusedVariables false
set_option linter.unusedSimpArgs false
namespace Go.Proofs.Ytppbhjhbaknidaa
open Go.RowKit

theorem gcd_lt_P2 {m n L : Nat} (hm : m < P2 L) (hn : n < P2 L) : Nat.gcd m n < P2 L := by
  by_cases h : m = 0
  · subst h; rw [Nat.gcd_zero_left]; exact hn
  · exact Nat.lt_of_le_of_lt (Nat.le_of_dvd (by omega) (Nat.gcd_dvd_left m n)) hm

set_option maxHeartbeats 1000000 in
set_option maxRecDepth 100000 in
theorem NatGcds_walk (va : Value) (vb : Value) (w : World) (ia : In16 w va) (ib : In16 w vb) :
    Calls Try.prog 5 #[va, vb] w (RetB w true) := by
  have hB := Below.refl w.heap.size w
  go_enter Try.func5, Try.ntmps5
  go_wp2_with fail
  refine (raw_any ia 40 (by omega)).mono ?_
  rintro e w1 ⟨c, hc, rc, rfl, icr, b⟩
  replace hB := nextB hB b
  replace ia := ia.below b
  replace ib := ib.below b
  clear b
  have Hc := Lib.hid hc
  clear hc
  go_wp2_with fail
  refine (raw_any ib 40 (by omega)).mono ?_
  rintro e w2 ⟨d, hd, rd, rfl, idr, b⟩
  replace hB := nextB hB b
  replace ia := ia.below b
  replace ib := ib.below b
  replace icr := icr.below b
  clear b
  have Hd := Lib.hid hd
  clear hd
  have Hc := Lib.hid (lt_P2_mono Hc.out (show 16 * 40 ≤ 16384 by omega))
  have Hd := Lib.hid (lt_P2_mono Hd.out (show 16 * 40 ≤ 16384 by omega))
  go_wp2_with fail
  refine (two_any icr idr Hc.out Hd.out).mono ?_
  rintro e w3 ⟨u1, u2, rfl, j1, j2, b⟩
  obtain ⟨aox, qx, capx, rfl, xx⟩ := j1.slice
  clear j1
  obtain ⟨aoy, qy, capy, rfl, xy⟩ := j2.slice
  clear j2
  replace hB := nextB hB b
  replace ia := ia.below b
  replace ib := ib.below b
  replace icr := icr.below b
  replace idr := idr.below b
  clear b
  obtain ⟨b, kx, ky⟩ := pro2 w3 (.slice aox qx capx) (.slice aoy qy capy)
  obtain ⟨Rx, hRx⟩ : ∃ R, R = w3.heap.size := ⟨_, rfl⟩
  have cc0 := kx.cell
  have cc1 := ky.cell
  go_wp2_with fail
  obtain ⟨w4, hw⟩ : ∃ w_ : World, w_ = ((w3.alloc (.cells #[.slice aox qx capx] 25)).alloc (.cells #[.slice aoy qy capy] 25)) := ⟨_, rfl⟩
  rw [← hw] at b kx ky ⊢
  rw [← hRx] at kx ky ⊢
  clear hw hRx cc0 cc1
  replace hB := nextB hB b
  replace ia := ia.below b
  replace ib := ib.below b
  replace icr := icr.below b
  replace idr := idr.below b
  replace xx := xx.below b
  replace xy := xy.below b
  clear b
  refine (gcdR_any icr idr 16384 (by omega) Hc.out Hd.out).mono ?_
  rintro e w5 ⟨rg, rfl, ig, b⟩
  replace hB := nextB hB b
  replace ia := ia.below b
  replace ib := ib.below b
  replace icr := icr.below b
  replace idr := idr.below b
  replace xx := xx.below b
  replace xy := xy.below b
  replace kx := kx.below b
  replace ky := ky.below b
  clear b
  have HGL : Hid (Nat.gcd c d < P2 16384) := Lib.hid (gcd_lt_P2 Hc.out Hd.out)
  have cc0 := kx.cell
  have cc1 := ky.cell
  go_wp2_with fail
  clear cc0 cc1
  refine (Gcd_any ⟨_, rfl, xx⟩ ⟨_, rfl, xy⟩ 16384 (by omega) Hc.out Hd.out).mono ?_
  rintro e w6 ⟨v1, rfl, j1, b⟩
  replace b := b
  replace hB := nextB hB b
  replace ia := ia.below b
  replace ib := ib.below b
  replace icr := icr.below b
  replace idr := idr.below b
  replace xx := xx.below b
  replace xy := xy.below b
  replace kx := kx.below b
  replace ky := ky.below b
  replace ig := ig.below b
  clear b
  have cc0 := kx.cell
  have cc1 := ky.cell
  go_wp2_with fail
  clear cc0 cc1
  refine (is_any j1 ig 16384 (by omega) HGL.out).mono ?_
  rintro e w7 ⟨rfl, b⟩
  replace hB := nextB hB b
  replace ia := ia.below b
  replace ib := ib.below b
  replace icr := icr.below b
  replace idr := idr.below b
  replace xx := xx.below b
  replace xy := xy.below b
  replace kx := kx.below b
  replace ky := ky.below b
  replace ig := ig.below b
  replace j1 := j1.below b
  clear b
  clear j1
  have cc0 := kx.cell
  have cc1 := ky.cell
  go_wp2_with fail
  clear cc0 cc1
  refine (Gcd_any ⟨_, rfl, xy⟩ ⟨_, rfl, xx⟩ 16384 (by omega) Hd.out Hc.out).mono ?_
  rintro e w8 ⟨v2, rfl, j2, b⟩
  rw [Nat.gcd_comm] at j2
  replace hB := nextB hB b
  replace ia := ia.below b
  replace ib := ib.below b
  replace icr := icr.below b
  replace idr := idr.below b
  replace xx := xx.below b
  replace xy := xy.below b
  replace kx := kx.below b
  replace ky := ky.below b
  replace ig := ig.below b
  clear b
  have cc0 := kx.cell
  have cc1 := ky.cell
  go_wp2_with fail
  clear cc0 cc1
  refine (is_any j2 ig 16384 (by omega) HGL.out).mono ?_
  rintro e w9 ⟨rfl, b⟩
  replace hB := nextB hB b
  replace ia := ia.below b
  replace ib := ib.below b
  replace icr := icr.below b
  replace idr := idr.below b
  replace xx := xx.below b
  replace xy := xy.below b
  replace kx := kx.below b
  replace ky := ky.below b
  replace ig := ig.below b
  replace j2 := j2.below b
  clear b
  have cc0 := kx.cell
  have cc1 := ky.cell
  go_wp2_with fail
  clear cc0 cc1
  refine (awake_any _).mono ?_
  rintro e w10 ⟨rfl, b⟩
  replace hB := nextB hB b
  replace ia := ia.below b
  replace ib := ib.below b
  replace icr := icr.below b
  replace idr := idr.below b
  replace xx := xx.below b
  replace xy := xy.below b
  replace kx := kx.below b
  replace ky := ky.below b
  replace ig := ig.below b
  replace j2 := j2.below b
  clear b
  go_wp2
  go_ret
  exact ⟨rfl, hB⟩

set_option maxHeartbeats 1000000 in
set_option maxRecDepth 100000 in
theorem NatDivides_walk (va : Value) (vb : Value) (w : World) (ia : In16 w va) (ib : In16 w vb) :
    Calls Try.prog 9 #[va, vb] w (RetB w true) := by
  have hB := Below.refl w.heap.size w
  go_enter Try.func9, Try.ntmps9
  go_wp2_with fail
  refine (raw_any ia 80 (by omega)).mono ?_
  rintro e w1 ⟨c, hc, rc, rfl, icr, b⟩
  replace hB := nextB hB b
  replace ia := ia.below b
  replace ib := ib.below b
  clear b
  have Hc := Lib.hid hc
  clear hc
  go_wp2_with fail
  refine (raw_any ib 80 (by omega)).mono ?_
  rintro e w2 ⟨d, hd, rd, rfl, idr, b⟩
  replace hB := nextB hB b
  replace ia := ia.below b
  replace ib := ib.below b
  replace icr := icr.below b
  clear b
  have Hd := Lib.hid hd
  clear hd
  have Hc := Lib.hid (lt_P2_mono Hc.out (show 16 * 80 ≤ 16384 by omega))
  have Hd := Lib.hid (lt_P2_mono Hd.out (show 16 * 80 ≤ 16384 by omega))
  go_wp2_with fail
  refine (two_any icr idr Hc.out Hd.out).mono ?_
  rintro e w3 ⟨u1, u2, rfl, j1, j2, b⟩
  obtain ⟨aox, qx, capx, rfl, xx⟩ := j1.slice
  clear j1
  obtain ⟨aoy, qy, capy, rfl, xy⟩ := j2.slice
  clear j2
  replace hB := nextB hB b
  replace ia := ia.below b
  replace ib := ib.below b
  replace icr := icr.below b
  replace idr := idr.below b
  clear b
  obtain ⟨b, kx, ky⟩ := pro2 w3 (.slice aox qx capx) (.slice aoy qy capy)
  obtain ⟨Rx, hRx⟩ : ∃ R, R = w3.heap.size := ⟨_, rfl⟩
  have cc0 := kx.cell
  have cc1 := ky.cell
  go_wp2_with fail
  obtain ⟨w4, hw⟩ : ∃ w_ : World, w_ = ((w3.alloc (.cells #[.slice aox qx capx] 25)).alloc (.cells #[.slice aoy qy capy] 25)) := ⟨_, rfl⟩
  rw [← hw] at b kx ky ⊢
  rw [← hRx] at kx ky ⊢
  clear hw hRx cc0 cc1
  replace hB := nextB hB b
  replace ia := ia.below b
  replace ib := ib.below b
  replace icr := icr.below b
  replace idr := idr.below b
  replace xx := xx.below b
  replace xy := xy.below b
  clear b
  by_cases hd0 : d = 0
  · subst hd0
    refine (DivMod_zero ⟨_, rfl, xx⟩ ⟨_, rfl, xy⟩).mono ?_
    rintro e w5 ⟨u1, u2, rfl, j1, j2, b⟩
    replace hB := nextB hB b
    replace ia := ia.below b
    replace ib := ib.below b
    replace icr := icr.below b
    replace idr := idr.below b
    replace xx := xx.below b
    replace xy := xy.below b
    replace kx := kx.below b
    replace ky := ky.below b
    clear b
    obtain ⟨aoz, qz, capz, rfl, xz⟩ := j1.slice
    clear j1
    obtain ⟨aov, qv, capv, rfl, xv⟩ := j2.slice
    clear j2
    obtain ⟨aod, qd, capd, rfl, hqd, -⟩ := idr.slice
    obtain rfl := hqd.2 rfl
    clear hqd
    obtain ⟨b, kz, kv⟩ := pro2 w5 (.slice aoz qz capz) (.slice aov qv capv)
    obtain ⟨Rz, hRz⟩ : ∃ R, R = w5.heap.size := ⟨_, rfl⟩
    have cc0 := (kx.below b).cell
    have cc1 := (ky.below b).cell
    have cc2 := kz.cell
    have cc3 := kv.cell
    go_wp2_with fail
    obtain ⟨w6, hw⟩ : ∃ w_ : World, w_ = ((w5.alloc (.cells #[.slice aoz qz capz] 25)).alloc (.cells #[.slice aov qv capv] 25)) := ⟨_, rfl⟩
    rw [← hw] at b kz kv ⊢
    rw [← hRz] at kz kv ⊢
    clear hw hRz cc0 cc1 cc2 cc3
    replace hB := nextB hB b
    replace ia := ia.below b
    replace ib := ib.below b
    replace icr := icr.below b
    replace idr := idr.below b
    replace xx := xx.below b
    replace xy := xy.below b
    replace kx := kx.below b
    replace ky := ky.below b
    replace xz := xz.below b
    replace xv := xv.below b
    clear b
    refine (told_err (er := 11) ⟨_, rfl, xz⟩ (by omega) (by omega) ⟨_, _, _, rfl⟩).mono ?_
    rintro e w7 ⟨rfl, b⟩
    replace hB := nextB hB b
    replace ia := ia.below b
    replace ib := ib.below b
    replace icr := icr.below b
    replace idr := idr.below b
    replace xx := xx.below b
    replace xy := xy.below b
    replace kx := kx.below b
    replace ky := ky.below b
    replace xz := xz.below b
    replace xv := xv.below b
    replace kz := kz.below b
    replace kv := kv.below b
    clear b
    have cc0 := kx.cell
    have cc1 := ky.cell
    have cc2 := kz.cell
    have cc3 := kv.cell
    go_wp2_with fail
    clear cc0 cc1 cc2 cc3
    refine (told_err (er := 11) ⟨_, rfl, xv⟩ (by omega) (by omega) ⟨_, _, _, rfl⟩).mono ?_
    rintro e w8 ⟨rfl, b⟩
    replace hB := nextB hB b
    replace ia := ia.below b
    replace ib := ib.below b
    replace icr := icr.below b
    replace idr := idr.below b
    replace xx := xx.below b
    replace xy := xy.below b
    replace kx := kx.below b
    replace ky := ky.below b
    replace xz := xz.below b
    replace xv := xv.below b
    replace kz := kz.below b
    replace kv := kv.below b
    clear b
    have cc0 := kx.cell
    have cc1 := ky.cell
    have cc2 := kz.cell
    have cc3 := kv.cell
    go_wp2_with fail
    clear cc0 cc1 cc2 cc3
    refine (awake_any _).mono ?_
    rintro e w9 ⟨rfl, b⟩
    replace hB := nextB hB b
    replace ia := ia.below b
    replace ib := ib.below b
    replace icr := icr.below b
    replace idr := idr.below b
    replace xx := xx.below b
    replace xy := xy.below b
    replace kx := kx.below b
    replace ky := ky.below b
    replace xz := xz.below b
    replace xv := xv.below b
    replace kz := kz.below b
    replace kv := kv.below b
    clear b
    go_wp2
    go_ret
    exact ⟨rfl, hB⟩
  · have hd1 : 0 < d := Nat.pos_of_ne_zero hd0
    clear hd0
    refine (DivMod_any ⟨_, rfl, xx⟩ ⟨_, rfl, xy⟩ hd1 16384 (by omega) Hc.out).mono ?_
    rintro e w5 ⟨u1, u2, rfl, j1, j2, b⟩
    replace hB := nextB hB b
    replace ia := ia.below b
    replace ib := ib.below b
    replace icr := icr.below b
    replace idr := idr.below b
    replace xx := xx.below b
    replace xy := xy.below b
    replace kx := kx.below b
    replace ky := ky.below b
    clear b
    obtain ⟨aoz, qz, capz, rfl, xz⟩ := j1.slice
    clear j1
    obtain ⟨aov, qv, capv, rfl, xv⟩ := j2.slice
    clear j2
    obtain ⟨aod, qd, capd, rfl, hqd, -⟩ := idr.slice
    have hqd0 : ((qd : Int) == 0) = false := by rw [beq_eq_false_iff_ne]; intro hc; have := hqd.1 (by omega); omega
    clear hqd
    have HQ := Lib.hid (Nat.lt_of_le_of_lt (Nat.div_le_self c d) Hc.out)
    have HR := Lib.hid (Nat.lt_trans (Nat.mod_lt c hd1) Hd.out)
    obtain ⟨b, kz, kv⟩ := pro2 w5 (.slice aoz qz capz) (.slice aov qv capv)
    obtain ⟨Rz, hRz⟩ : ∃ R, R = w5.heap.size := ⟨_, rfl⟩
    have cc0 := (kx.below b).cell
    have cc1 := (ky.below b).cell
    have cc2 := kz.cell
    have cc3 := kv.cell
    go_wp2_with fail
    obtain ⟨w6, hw⟩ : ∃ w_ : World, w_ = ((w5.alloc (.cells #[.slice aoz qz capz] 25)).alloc (.cells #[.slice aov qv capv] 25)) := ⟨_, rfl⟩
    rw [← hw] at b kz kv ⊢
    rw [← hRz] at kz kv ⊢
    clear hw hRz cc0 cc1 cc2 cc3
    replace hB := nextB hB b
    replace ia := ia.below b
    replace ib := ib.below b
    replace icr := icr.below b
    replace idr := idr.below b
    replace xx := xx.below b
    replace xy := xy.below b
    replace kx := kx.below b
    replace ky := ky.below b
    replace xz := xz.below b
    replace xv := xv.below b
    clear b
    refine (divModR_any icr idr hd1 16384 (by omega) Hc.out Hd.out).mono ?_
    rintro e w7 ⟨r1, r2, rfl, i1, i2, b⟩
    replace hB := nextB hB b
    replace ia := ia.below b
    replace ib := ib.below b
    replace icr := icr.below b
    replace idr := idr.below b
    replace xx := xx.below b
    replace xy := xy.below b
    replace kx := kx.below b
    replace ky := ky.below b
    replace xz := xz.below b
    replace xv := xv.below b
    replace kz := kz.below b
    replace kv := kv.below b
    clear b
    have cc0 := kx.cell
    have cc1 := ky.cell
    have cc2 := kz.cell
    have cc3 := kv.cell
    go_wp2_with fail
    clear cc0 cc1 cc2 cc3
    refine (told_ok ⟨_, rfl, xz⟩ i1 16384 (by omega) HQ.out).mono ?_
    rintro e w8 ⟨rfl, b⟩
    replace hB := nextB hB b
    replace ia := ia.below b
    replace ib := ib.below b
    replace icr := icr.below b
    replace idr := idr.below b
    replace xx := xx.below b
    replace xy := xy.below b
    replace kx := kx.below b
    replace ky := ky.below b
    replace xz := xz.below b
    replace xv := xv.below b
    replace kz := kz.below b
    replace kv := kv.below b
    replace i1 := i1.below b
    replace i2 := i2.below b
    clear b
    have cc0 := kx.cell
    have cc1 := ky.cell
    have cc2 := kz.cell
    have cc3 := kv.cell
    go_wp2_with fail
    clear cc0 cc1 cc2 cc3
    refine (told_ok ⟨_, rfl, xv⟩ i2 16384 (by omega) HR.out).mono ?_
    rintro e w9 ⟨rfl, b⟩
    replace hB := nextB hB b
    replace ia := ia.below b
    replace ib := ib.below b
    replace icr := icr.below b
    replace idr := idr.below b
    replace xx := xx.below b
    replace xy := xy.below b
    replace kx := kx.below b
    replace ky := ky.below b
    replace xz := xz.below b
    replace xv := xv.below b
    replace kz := kz.below b
    replace kv := kv.below b
    replace i1 := i1.below b
    replace i2 := i2.below b
    clear b
    have cc0 := kx.cell
    have cc1 := ky.cell
    have cc2 := kz.cell
    have cc3 := kv.cell
    go_wp2_with fail
    clear cc0 cc1 cc2 cc3
    refine (awake_any _).mono ?_
    rintro e w10 ⟨rfl, b⟩
    replace hB := nextB hB b
    replace ia := ia.below b
    replace ib := ib.below b
    replace icr := icr.below b
    replace idr := idr.below b
    replace xx := xx.below b
    replace xy := xy.below b
    replace kx := kx.below b
    replace ky := ky.below b
    replace xz := xz.below b
    replace xv := xv.below b
    replace kz := kz.below b
    replace kv := kv.below b
    replace i1 := i1.below b
    replace i2 := i2.below b
    clear b
    go_wp2
    go_ret
    exact ⟨rfl, hB⟩

end Go.Proofs.Ytppbhjhbaknidaa
