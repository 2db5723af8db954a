/-
  The walk of the law NatSums. No condition.
-/
import Derived.Test.YtppbhjhbaknidaaZg
set_option linter.unusedVariables false
set_option linter.unusedSimpArgs false

/-
  The walk of the law NatSums. No condition.
-/
set_option linter.unusedVariables false
set_option linter.unusedSimpArgs false
namespace Go.Proofs.Ytppbhjhbaknidaa
open Go.RowKit

set_option maxHeartbeats 16000000 in
set_option maxRecDepth 100000 in
theorem NatSums_walk (va : Value) (vb : Value) (w : World) (ia : In16 w va) (ib : In16 w vb) :
    Calls Try.prog 8 #[va, vb] w (RetB w true) := by
  have hB := Below.refl w.heap.size w
  have hfl : ∀ x, fitE x < 1000 := fun x => by unfold fitE; split <;> omega
  have HFL := Lib.hid hfl
  clear hfl
  go_enter Try.func8, Try.ntmps8
  go_wp2_with fail
  refine (raw_any ia 1024 (by omega)).mono ?_
  rintro e w1 ⟨c, hc, rc, rfl, icr, b⟩
  replace hB := nextB hB b
  replace ia := ia.below b
  replace ib := ib.below b
  clear b
  have Hc := Lib.hid hc
  clear hc
  go_wp2_with fail
  refine (raw_any ib 1024 (by omega)).mono ?_
  rintro e w2 ⟨d, hd, rd, rfl, idr, b⟩
  replace hB := nextB hB b
  replace ia := ia.below b
  replace ib := ib.below b
  replace icr := icr.below b
  clear b
  have Hd := Lib.hid hd
  clear hd
  have Hc := Lib.hid (lt_P2_mono Hc.out (show 16 * 1024 ≤ 16384 by omega))
  have Hd := Lib.hid (lt_P2_mono Hd.out (show 16 * 1024 ≤ 16384 by omega))
  go_wp2_with fail
  refine (two_any icr idr Hc.out Hd.out).mono ?_
  rintro e w3 ⟨u1, u2, rfl, j1, j2, b⟩
  obtain ⟨aox, qx, capx, rfl, xx⟩ := j1.slice
  clear j1
  obtain ⟨aoy, qy, capy, rfl, xy⟩ := j2.slice
  clear j2
  replace hB := nextB hB b
  replace ia := ia.below b
  replace ib := ib.below b
  replace icr := icr.below b
  replace idr := idr.below b
  clear b
  obtain ⟨b, kx, ky⟩ := pro2 w3 (.slice aox qx capx) (.slice aoy qy capy)
  obtain ⟨Rx, hRx⟩ : ∃ R, R = w3.heap.size := ⟨_, rfl⟩
  have cc0 := kx.cell
  have cc1 := ky.cell
  go_wp2_with fail
  obtain ⟨w4, hw⟩ : ∃ w_ : World, w_ = ((w3.alloc (.cells #[.slice aox qx capx] 25)).alloc (.cells #[.slice aoy qy capy] 25)) := ⟨_, rfl⟩
  rw [← hw] at b kx ky ⊢
  rw [← hRx] at kx ky ⊢
  clear hw hRx cc0 cc1
  replace hB := nextB hB b
  replace ia := ia.below b
  replace ib := ib.below b
  replace icr := icr.below b
  replace idr := idr.below b
  replace xx := xx.below b
  replace xy := xy.below b
  clear b
  have HS := Lib.hid (add_lt_P2 Hc.out Hd.out)
  have HFit := Lib.hid (fun (v : Value) (w_ : World) (h : IsR w_ v (c + d)) => fit_any h)
  have HE := Lib.hid (HFL.out (c + d))
  refine (Add_any ⟨_, rfl, xx⟩ ⟨_, rfl, xy⟩ 16384 (by omega) Hc.out Hd.out).mono ?_
  rintro e w5 ⟨v_, rfl, j_, b⟩
  generalize fitE (c + d) = er at *
  replace hB := nextB hB b
  replace ia := ia.below b
  replace ib := ib.below b
  replace icr := icr.below b
  replace idr := idr.below b
  replace xx := xx.below b
  replace xy := xy.below b
  replace kx := kx.below b
  replace ky := ky.below b
  clear b
  obtain ⟨aoz, qz, capz, rfl, xz⟩ := j_.slice
  clear j_
  obtain ⟨b, kz⟩ := pro1 w5 (.slice aoz qz capz)
  obtain ⟨Rz, hRz⟩ : ∃ R, R = w5.heap.size := ⟨_, rfl⟩
  have cc0 := (kx.below b).cell
  have cc1 := (ky.below b).cell
  have cc2 := kz.cell
  go_wp2_with fail
  obtain ⟨w6, hw⟩ : ∃ w_ : World, w_ = (w5.alloc (.cells #[.slice aoz qz capz] 25)) := ⟨_, rfl⟩
  rw [← hw] at b kz ⊢
  rw [← hRz] at kz ⊢
  clear hw hRz cc0 cc1 cc2
  replace hB := nextB hB b
  replace ia := ia.below b
  replace ib := ib.below b
  replace icr := icr.below b
  replace idr := idr.below b
  replace xx := xx.below b
  replace xy := xy.below b
  replace kx := kx.below b
  replace ky := ky.below b
  replace xz := xz.below b
  clear b
  rcases Nat.lt_trichotomy c d with hlt | hlt | hlt
  · have HLT := Lib.hid hlt
    clear hlt
    refine (Sub_any ⟨_, rfl, xx⟩ ⟨_, rfl, xy⟩ 16384 (by omega) Hc.out).mono ?_
    rintro e w7 ⟨v_, rfl, j_, b⟩
    rw [if_pos (show c < d from HLT.out), if_neg (by omega)] at j_
    rw [if_pos (show c < d from HLT.out)]
    replace hB := nextB hB b
    replace ia := ia.below b
    replace ib := ib.below b
    replace icr := icr.below b
    replace idr := idr.below b
    replace xx := xx.below b
    replace xy := xy.below b
    replace kx := kx.below b
    replace ky := ky.below b
    replace xz := xz.below b
    replace kz := kz.below b
    clear b
    obtain ⟨aov, qv, capv, rfl, xv⟩ := j_.slice
    clear j_
    obtain ⟨b, kv⟩ := pro1 w7 (.slice aov qv capv)
    obtain ⟨Rv, hRv⟩ : ∃ R, R = w7.heap.size := ⟨_, rfl⟩
    have cc0 := (kx.below b).cell
    have cc1 := (ky.below b).cell
    have cc2 := (kz.below b).cell
    have cc3 := kv.cell
    go_wp2_with fail
    obtain ⟨w8, hw⟩ : ∃ w_ : World, w_ = (w7.alloc (.cells #[.slice aov qv capv] 25)) := ⟨_, rfl⟩
    rw [← hw] at b kv ⊢
    rw [← hRv] at kv ⊢
    clear hw hRv cc0 cc1 cc2 cc3
    replace hB := nextB hB b
    replace ia := ia.below b
    replace ib := ib.below b
    replace icr := icr.below b
    replace idr := idr.below b
    replace xx := xx.below b
    replace xy := xy.below b
    replace kx := kx.below b
    replace ky := ky.below b
    replace xz := xz.below b
    replace kz := kz.below b
    replace xv := xv.below b
    clear b
    refine (Sub_any ⟨_, rfl, xy⟩ ⟨_, rfl, xx⟩ 16384 (by omega) Hd.out).mono ?_
    rintro e w9 ⟨v_, rfl, j_, b⟩
    rw [if_neg (show ¬ d < c by have := HLT.out; omega), if_pos rfl] at j_
    rw [if_neg (show ¬ d < c by have := HLT.out; omega)]
    replace hB := nextB hB b
    replace ia := ia.below b
    replace ib := ib.below b
    replace icr := icr.below b
    replace idr := idr.below b
    replace xx := xx.below b
    replace xy := xy.below b
    replace kx := kx.below b
    replace ky := ky.below b
    replace xz := xz.below b
    replace kz := kz.below b
    replace xv := xv.below b
    replace kv := kv.below b
    clear b
    obtain ⟨aow, qw, capw, rfl, xw⟩ := j_.slice
    clear j_
    obtain ⟨b, kw⟩ := pro1 w9 (.slice aow qw capw)
    obtain ⟨Rw, hRw⟩ : ∃ R, R = w9.heap.size := ⟨_, rfl⟩
    have cc0 := (kx.below b).cell
    have cc1 := (ky.below b).cell
    have cc2 := (kz.below b).cell
    have cc3 := (kv.below b).cell
    have cc4 := kw.cell
    go_wp2_with fail
    obtain ⟨w10, hw⟩ : ∃ w_ : World, w_ = (w9.alloc (.cells #[.slice aow qw capw] 25)) := ⟨_, rfl⟩
    rw [← hw] at b kw ⊢
    rw [← hRw] at kw ⊢
    clear hw hRw cc0 cc1 cc2 cc3 cc4
    replace hB := nextB hB b
    replace ia := ia.below b
    replace ib := ib.below b
    replace icr := icr.below b
    replace idr := idr.below b
    replace xx := xx.below b
    replace xy := xy.below b
    replace kx := kx.below b
    replace ky := ky.below b
    replace xz := xz.below b
    replace kz := kz.below b
    replace xv := xv.below b
    replace kv := kv.below b
    replace xw := xw.below b
    clear b
    obtain ⟨wo, hwo⟩ : ∃ wo : World, wo = w10 := ⟨_, rfl⟩
    rw [← hwo] at hB ia ib icr idr xx xy kx ky xz kz xv kv xw kw ⊢
    clear hwo
    have cc0 := kx.cell
    have cc1 := ky.cell
    have cc2 := kz.cell
    have cc3 := kv.cell
    have cc4 := kw.cell
    have ltx := kx.lt
    have lty := ky.lt
    have ltz := kz.lt
    have ltv := kv.lt
    have ltw := kw.lt
    go_wp2
    go_region_held3 (fun w' => w'.cell? ⟨Rx, 0, none⟩ = some (.slice aox qx capx) ∧ w'.cell? ⟨Rx + 1, 0, none⟩ = some (.slice aoy qy capy) ∧ w'.cell? ⟨Rz, 0, none⟩ = some (.slice aoz qz capz) ∧ w'.cell? ⟨Rv, 0, none⟩ = some (.slice aov qv capv) ∧ w'.cell? ⟨Rw, 0, none⟩ = some (.slice aow qw capw) ∧ Below wo.heap.size wo w')
      (first
        | exact ⟨cc0, cc1, cc2, cc3, cc4, (Below.refl _ _).drew⟩
        | (go_split_ands; exact ⟨by assumption, by assumption, by assumption, by assumption, by assumption, by assumption⟩)
        | (go_split_ands; have hk := nextB (by assumption) bb; exact ⟨(hk.cell (p := ⟨Rx, 0, none⟩) ltx).trans cc0, (hk.cell (p := ⟨Rx + 1, 0, none⟩) lty).trans cc1, (hk.cell (p := ⟨Rz, 0, none⟩) ltz).trans cc2, (hk.cell (p := ⟨Rv, 0, none⟩) ltv).trans cc3, (hk.cell (p := ⟨Rw, 0, none⟩) ltw).trans cc4, hk⟩))
      (first
        | (go_at_call 45; go_split_ands; refine (Cmp_any (by first | exact ⟨_, rfl, xx.below (by assumption)⟩ | exact ⟨_, rfl, xy.below (by assumption)⟩) (by first | exact ⟨_, rfl, xx.below (by assumption)⟩ | exact ⟨_, rfl, xy.below (by assumption)⟩)).mono ?_; rintro e wq ⟨rfl, bb⟩)
        | (go_at_call 55; go_split_ands; refine (cmpR_any (by first | exact icr.below (by assumption) | exact idr.below (by assumption)) (by first | exact icr.below (by assumption) | exact idr.below (by assumption))).mono ?_; rintro e wq ⟨rfl, bb⟩)
        | (go_at_call 56; go_split_ands; refine (addR_any (icr.below (by assumption)) (idr.below (by assumption)) 16384 (by omega) Hc.out Hd.out).mono ?_; rintro e wq ⟨vr, rfl, ir, bb⟩)
        | (go_at_call 39; go_split_ands; refine (HFit.out _ _ (by assumption)).mono ?_; rintro e wq ⟨rfl, rfl⟩)
        | (go_at_call 34; go_split_ands; refine (told_any ⟨_, rfl, xz.below (by assumption)⟩ (by first | assumption | exact IsR.below (by assumption) (by assumption) | exact IsR.below (by assumption) (nextB (by assumption) (by assumption)) | exact IsR.below (by assumption) (nextB (nextB (by assumption) (by assumption)) (by assumption))) (fun _ => rfl) HE.out 16385 (by omega) HS.out).mono ?_; rintro e wq ⟨rfl, bb⟩))
    go_split_ands
    have b : Below wo.heap.size wo wq := by assumption
    obtain ⟨w11, hw⟩ : ∃ w_ : World, w_ = wq := ⟨_, rfl⟩
    rw [← hw] at b ⊢
    clear hw
    replace hB := nextB hB b
    replace ia := ia.below b
    replace ib := ib.below b
    replace icr := icr.below b
    replace idr := idr.below b
    replace xx := xx.below b
    replace xy := xy.below b
    replace kx := kx.below b
    replace ky := ky.below b
    replace xz := xz.below b
    replace kz := kz.below b
    replace xv := xv.below b
    replace kv := kv.below b
    replace xw := xw.below b
    replace kw := kw.below b
    clear b
    have cc0 := kx.cell
    have cc1 := ky.cell
    have cc2 := kz.cell
    have cc3 := kv.cell
    have cc4 := kw.cell
    go_wp2_with fail
    clear cc0 cc1 cc2 cc3 cc4
    refine (cmpR_any icr idr).mono ?_
    rintro e w12 ⟨rfl, b⟩
    rw [cmpI_lt HLT.out]
    replace hB := nextB hB b
    replace ia := ia.below b
    replace ib := ib.below b
    replace icr := icr.below b
    replace idr := idr.below b
    replace xx := xx.below b
    replace xy := xy.below b
    replace kx := kx.below b
    replace ky := ky.below b
    replace xz := xz.below b
    replace kz := kz.below b
    replace xv := xv.below b
    replace kv := kv.below b
    replace xw := xw.below b
    replace kw := kw.below b
    clear b
    have T1 := Lib.hid (show ∀ w_, IsN w_ (.slice aov qv capv) 0 → Calls Try.prog 34 #[.agg #[.slice aov qv capv], .int .i64 10, .slice none 0 0, .int .i64 10] w_ (RetB w_ true) from fun w_ h => told_err (er := 10) ⟨_, rfl, h⟩ (by omega) (by omega) ⟨_, _, _, rfl⟩)
    have T2 := Lib.hid (show ∀ w_ vr, IsN w_ (.slice aow qw capw) (d - c) → IsR w_ vr (d - c) → Calls Try.prog 34 #[.agg #[.slice aow qw capw], .int .i64 0, vr, .int .i64 0] w_ (RetB w_ true) from fun w_ vr h h2 => told_ok ⟨_, rfl, h⟩ h2 16384 (by omega) (Nat.lt_of_le_of_lt (Nat.sub_le _ _) Hd.out))
    obtain ⟨wo, hwo⟩ : ∃ wo : World, wo = w12 := ⟨_, rfl⟩
    rw [← hwo] at hB ia ib icr idr xx xy kx ky xz kz xv kv xw kw ⊢
    clear hwo
    have cc0 := kx.cell
    have cc1 := ky.cell
    have cc2 := kz.cell
    have cc3 := kv.cell
    have cc4 := kw.cell
    have ltx := kx.lt
    have lty := ky.lt
    have ltz := kz.lt
    have ltv := kv.lt
    have ltw := kw.lt
    go_wp2
    go_region_held3 (fun w' => w'.cell? ⟨Rx, 0, none⟩ = some (.slice aox qx capx) ∧ w'.cell? ⟨Rx + 1, 0, none⟩ = some (.slice aoy qy capy) ∧ w'.cell? ⟨Rz, 0, none⟩ = some (.slice aoz qz capz) ∧ w'.cell? ⟨Rv, 0, none⟩ = some (.slice aov qv capv) ∧ w'.cell? ⟨Rw, 0, none⟩ = some (.slice aow qw capw) ∧ Below wo.heap.size wo w')
      (first
        | exact ⟨cc0, cc1, cc2, cc3, cc4, (Below.refl _ _).drew⟩
        | (go_split_ands; exact ⟨by assumption, by assumption, by assumption, by assumption, by assumption, by assumption⟩)
        | (go_split_ands; have hk := nextB (by assumption) bb; exact ⟨(hk.cell (p := ⟨Rx, 0, none⟩) ltx).trans cc0, (hk.cell (p := ⟨Rx + 1, 0, none⟩) lty).trans cc1, (hk.cell (p := ⟨Rz, 0, none⟩) ltz).trans cc2, (hk.cell (p := ⟨Rv, 0, none⟩) ltv).trans cc3, (hk.cell (p := ⟨Rw, 0, none⟩) ltw).trans cc4, hk⟩))
      (first
        | (go_at_call 57; go_split_ands; refine (subR_any (idr.below (by assumption)) (icr.below (by assumption)) 16384 (by omega) Hd.out (Nat.le_of_lt HLT.out)).mono ?_; rintro e wq ⟨vr, rfl, ir, bb⟩)
        | (go_at_call 34; go_split_ands; (first | (with_reducible refine (T1.out _ (xv.below (by assumption))).mono ?_) | (with_reducible refine (T2.out _ _ (xw.below (by assumption)) (by assumption)).mono ?_)); rintro e wq ⟨rfl, bb⟩)
        | (go_at_call 31; go_split_ands; refine (awake_any _).mono ?_; rintro e wq ⟨rfl, bb⟩))
    go_split_ands
    have hC := nextB hB (by assumption)
    go_wp2
    go_ret
    exact ⟨rfl, hC⟩
  · have HEQ := Lib.hid hlt
    have HLT := Lib.hid hlt
    clear hlt
    refine (Sub_any ⟨_, rfl, xx⟩ ⟨_, rfl, xy⟩ 16384 (by omega) Hc.out).mono ?_
    rintro e w7 ⟨v_, rfl, j_, b⟩
    rw [if_neg (show ¬ c < d by have := HLT.out; omega), if_pos rfl] at j_
    rw [if_neg (show ¬ c < d by have := HLT.out; omega)]
    rw [show c - d = 0 by have := HLT.out; omega] at j_
    replace hB := nextB hB b
    replace ia := ia.below b
    replace ib := ib.below b
    replace icr := icr.below b
    replace idr := idr.below b
    replace xx := xx.below b
    replace xy := xy.below b
    replace kx := kx.below b
    replace ky := ky.below b
    replace xz := xz.below b
    replace kz := kz.below b
    clear b
    obtain ⟨aov, qv, capv, rfl, xv⟩ := j_.slice
    clear j_
    obtain ⟨b, kv⟩ := pro1 w7 (.slice aov qv capv)
    obtain ⟨Rv, hRv⟩ : ∃ R, R = w7.heap.size := ⟨_, rfl⟩
    have cc0 := (kx.below b).cell
    have cc1 := (ky.below b).cell
    have cc2 := (kz.below b).cell
    have cc3 := kv.cell
    go_wp2_with fail
    obtain ⟨w8, hw⟩ : ∃ w_ : World, w_ = (w7.alloc (.cells #[.slice aov qv capv] 25)) := ⟨_, rfl⟩
    rw [← hw] at b kv ⊢
    rw [← hRv] at kv ⊢
    clear hw hRv cc0 cc1 cc2 cc3
    replace hB := nextB hB b
    replace ia := ia.below b
    replace ib := ib.below b
    replace icr := icr.below b
    replace idr := idr.below b
    replace xx := xx.below b
    replace xy := xy.below b
    replace kx := kx.below b
    replace ky := ky.below b
    replace xz := xz.below b
    replace kz := kz.below b
    replace xv := xv.below b
    clear b
    refine (Sub_any ⟨_, rfl, xy⟩ ⟨_, rfl, xx⟩ 16384 (by omega) Hd.out).mono ?_
    rintro e w9 ⟨v_, rfl, j_, b⟩
    rw [if_neg (show ¬ d < c by have := HLT.out; omega), if_pos rfl] at j_
    rw [if_neg (show ¬ d < c by have := HLT.out; omega)]
    rw [show d - c = 0 by have := HLT.out; omega] at j_
    replace hB := nextB hB b
    replace ia := ia.below b
    replace ib := ib.below b
    replace icr := icr.below b
    replace idr := idr.below b
    replace xx := xx.below b
    replace xy := xy.below b
    replace kx := kx.below b
    replace ky := ky.below b
    replace xz := xz.below b
    replace kz := kz.below b
    replace xv := xv.below b
    replace kv := kv.below b
    clear b
    obtain ⟨aow, qw, capw, rfl, xw⟩ := j_.slice
    clear j_
    obtain ⟨b, kw⟩ := pro1 w9 (.slice aow qw capw)
    obtain ⟨Rw, hRw⟩ : ∃ R, R = w9.heap.size := ⟨_, rfl⟩
    have cc0 := (kx.below b).cell
    have cc1 := (ky.below b).cell
    have cc2 := (kz.below b).cell
    have cc3 := (kv.below b).cell
    have cc4 := kw.cell
    go_wp2_with fail
    obtain ⟨w10, hw⟩ : ∃ w_ : World, w_ = (w9.alloc (.cells #[.slice aow qw capw] 25)) := ⟨_, rfl⟩
    rw [← hw] at b kw ⊢
    rw [← hRw] at kw ⊢
    clear hw hRw cc0 cc1 cc2 cc3 cc4
    replace hB := nextB hB b
    replace ia := ia.below b
    replace ib := ib.below b
    replace icr := icr.below b
    replace idr := idr.below b
    replace xx := xx.below b
    replace xy := xy.below b
    replace kx := kx.below b
    replace ky := ky.below b
    replace xz := xz.below b
    replace kz := kz.below b
    replace xv := xv.below b
    replace kv := kv.below b
    replace xw := xw.below b
    clear b
    obtain ⟨wo, hwo⟩ : ∃ wo : World, wo = w10 := ⟨_, rfl⟩
    rw [← hwo] at hB ia ib icr idr xx xy kx ky xz kz xv kv xw kw ⊢
    clear hwo
    have cc0 := kx.cell
    have cc1 := ky.cell
    have cc2 := kz.cell
    have cc3 := kv.cell
    have cc4 := kw.cell
    have ltx := kx.lt
    have lty := ky.lt
    have ltz := kz.lt
    have ltv := kv.lt
    have ltw := kw.lt
    go_wp2
    go_region_held3 (fun w' => w'.cell? ⟨Rx, 0, none⟩ = some (.slice aox qx capx) ∧ w'.cell? ⟨Rx + 1, 0, none⟩ = some (.slice aoy qy capy) ∧ w'.cell? ⟨Rz, 0, none⟩ = some (.slice aoz qz capz) ∧ w'.cell? ⟨Rv, 0, none⟩ = some (.slice aov qv capv) ∧ w'.cell? ⟨Rw, 0, none⟩ = some (.slice aow qw capw) ∧ Below wo.heap.size wo w')
      (first
        | exact ⟨cc0, cc1, cc2, cc3, cc4, (Below.refl _ _).drew⟩
        | (go_split_ands; exact ⟨by assumption, by assumption, by assumption, by assumption, by assumption, by assumption⟩)
        | (go_split_ands; have hk := nextB (by assumption) bb; exact ⟨(hk.cell (p := ⟨Rx, 0, none⟩) ltx).trans cc0, (hk.cell (p := ⟨Rx + 1, 0, none⟩) lty).trans cc1, (hk.cell (p := ⟨Rz, 0, none⟩) ltz).trans cc2, (hk.cell (p := ⟨Rv, 0, none⟩) ltv).trans cc3, (hk.cell (p := ⟨Rw, 0, none⟩) ltw).trans cc4, hk⟩))
      (first
        | (go_at_call 45; go_split_ands; refine (Cmp_any (by first | exact ⟨_, rfl, xx.below (by assumption)⟩ | exact ⟨_, rfl, xy.below (by assumption)⟩) (by first | exact ⟨_, rfl, xx.below (by assumption)⟩ | exact ⟨_, rfl, xy.below (by assumption)⟩)).mono ?_; rintro e wq ⟨rfl, bb⟩)
        | (go_at_call 55; go_split_ands; refine (cmpR_any (by first | exact icr.below (by assumption) | exact idr.below (by assumption)) (by first | exact icr.below (by assumption) | exact idr.below (by assumption))).mono ?_; rintro e wq ⟨rfl, bb⟩)
        | (go_at_call 56; go_split_ands; refine (addR_any (icr.below (by assumption)) (idr.below (by assumption)) 16384 (by omega) Hc.out Hd.out).mono ?_; rintro e wq ⟨vr, rfl, ir, bb⟩)
        | (go_at_call 39; go_split_ands; refine (HFit.out _ _ (by assumption)).mono ?_; rintro e wq ⟨rfl, rfl⟩)
        | (go_at_call 34; go_split_ands; refine (told_any ⟨_, rfl, xz.below (by assumption)⟩ (by first | assumption | exact IsR.below (by assumption) (by assumption) | exact IsR.below (by assumption) (nextB (by assumption) (by assumption)) | exact IsR.below (by assumption) (nextB (nextB (by assumption) (by assumption)) (by assumption))) (fun _ => rfl) HE.out 16385 (by omega) HS.out).mono ?_; rintro e wq ⟨rfl, bb⟩))
    go_split_ands
    have b : Below wo.heap.size wo wq := by assumption
    obtain ⟨w11, hw⟩ : ∃ w_ : World, w_ = wq := ⟨_, rfl⟩
    rw [← hw] at b ⊢
    clear hw
    replace hB := nextB hB b
    replace ia := ia.below b
    replace ib := ib.below b
    replace icr := icr.below b
    replace idr := idr.below b
    replace xx := xx.below b
    replace xy := xy.below b
    replace kx := kx.below b
    replace ky := ky.below b
    replace xz := xz.below b
    replace kz := kz.below b
    replace xv := xv.below b
    replace kv := kv.below b
    replace xw := xw.below b
    replace kw := kw.below b
    clear b
    have cc0 := kx.cell
    have cc1 := ky.cell
    have cc2 := kz.cell
    have cc3 := kv.cell
    have cc4 := kw.cell
    go_wp2_with fail
    clear cc0 cc1 cc2 cc3 cc4
    refine (cmpR_any icr idr).mono ?_
    rintro e w12 ⟨rfl, b⟩
    rw [HLT.out, cmpI_self]
    replace hB := nextB hB b
    replace ia := ia.below b
    replace ib := ib.below b
    replace icr := icr.below b
    replace idr := idr.below b
    replace xx := xx.below b
    replace xy := xy.below b
    replace kx := kx.below b
    replace ky := ky.below b
    replace xz := xz.below b
    replace kz := kz.below b
    replace xv := xv.below b
    replace kv := kv.below b
    replace xw := xw.below b
    replace kw := kw.below b
    clear b
    have cc0 := kx.cell
    have cc1 := ky.cell
    have cc2 := kz.cell
    have cc3 := kv.cell
    have cc4 := kw.cell
    go_wp2_with fail
    clear cc0 cc1 cc2 cc3 cc4
    refine (cmpR_any icr idr).mono ?_
    rintro e w13 ⟨rfl, b⟩
    rw [HLT.out, cmpI_self]
    replace hB := nextB hB b
    replace ia := ia.below b
    replace ib := ib.below b
    replace icr := icr.below b
    replace idr := idr.below b
    replace xx := xx.below b
    replace xy := xy.below b
    replace kx := kx.below b
    replace ky := ky.below b
    replace xz := xz.below b
    replace kz := kz.below b
    replace xv := xv.below b
    replace kv := kv.below b
    replace xw := xw.below b
    replace kw := kw.below b
    clear b
    have cc0 := kx.cell
    have cc1 := ky.cell
    have cc2 := kz.cell
    have cc3 := kv.cell
    have cc4 := kw.cell
    go_wp2_with fail
    clear cc0 cc1 cc2 cc3 cc4
    refine (told_ok ⟨_, rfl, xv⟩ (IsR.zero _) 16384 (by omega) (P2_pos _)).mono ?_
    rintro e w14 ⟨rfl, b⟩
    replace hB := nextB hB b
    replace ia := ia.below b
    replace ib := ib.below b
    replace icr := icr.below b
    replace idr := idr.below b
    replace xx := xx.below b
    replace xy := xy.below b
    replace kx := kx.below b
    replace ky := ky.below b
    replace xz := xz.below b
    replace kz := kz.below b
    replace xv := xv.below b
    replace kv := kv.below b
    replace xw := xw.below b
    replace kw := kw.below b
    clear b
    have cc0 := kx.cell
    have cc1 := ky.cell
    have cc2 := kz.cell
    have cc3 := kv.cell
    have cc4 := kw.cell
    go_wp2_with fail
    clear cc0 cc1 cc2 cc3 cc4
    refine (told_ok ⟨_, rfl, xw⟩ (IsR.zero _) 16384 (by omega) (P2_pos _)).mono ?_
    rintro e w15 ⟨rfl, b⟩
    replace hB := nextB hB b
    replace ia := ia.below b
    replace ib := ib.below b
    replace icr := icr.below b
    replace idr := idr.below b
    replace xx := xx.below b
    replace xy := xy.below b
    replace kx := kx.below b
    replace ky := ky.below b
    replace xz := xz.below b
    replace kz := kz.below b
    replace xv := xv.below b
    replace kv := kv.below b
    replace xw := xw.below b
    replace kw := kw.below b
    clear b
    have cc0 := kx.cell
    have cc1 := ky.cell
    have cc2 := kz.cell
    have cc3 := kv.cell
    have cc4 := kw.cell
    go_wp2_with fail
    clear cc0 cc1 cc2 cc3 cc4
    refine (awake_any _).mono ?_
    rintro e w16 ⟨rfl, b⟩
    replace hB := nextB hB b
    replace ia := ia.below b
    replace ib := ib.below b
    replace icr := icr.below b
    replace idr := idr.below b
    replace xx := xx.below b
    replace xy := xy.below b
    replace kx := kx.below b
    replace ky := ky.below b
    replace xz := xz.below b
    replace kz := kz.below b
    replace xv := xv.below b
    replace kv := kv.below b
    replace xw := xw.below b
    replace kw := kw.below b
    clear b
    go_wp2
    go_ret
    exact ⟨rfl, hB⟩
  · have HLT := Lib.hid hlt
    clear hlt
    refine (Sub_any ⟨_, rfl, xx⟩ ⟨_, rfl, xy⟩ 16384 (by omega) Hc.out).mono ?_
    rintro e w7 ⟨v_, rfl, j_, b⟩
    rw [if_neg (show ¬ c < d by have := HLT.out; omega), if_pos rfl] at j_
    rw [if_neg (show ¬ c < d by have := HLT.out; omega)]
    replace hB := nextB hB b
    replace ia := ia.below b
    replace ib := ib.below b
    replace icr := icr.below b
    replace idr := idr.below b
    replace xx := xx.below b
    replace xy := xy.below b
    replace kx := kx.below b
    replace ky := ky.below b
    replace xz := xz.below b
    replace kz := kz.below b
    clear b
    obtain ⟨aov, qv, capv, rfl, xv⟩ := j_.slice
    clear j_
    obtain ⟨b, kv⟩ := pro1 w7 (.slice aov qv capv)
    obtain ⟨Rv, hRv⟩ : ∃ R, R = w7.heap.size := ⟨_, rfl⟩
    have cc0 := (kx.below b).cell
    have cc1 := (ky.below b).cell
    have cc2 := (kz.below b).cell
    have cc3 := kv.cell
    go_wp2_with fail
    obtain ⟨w8, hw⟩ : ∃ w_ : World, w_ = (w7.alloc (.cells #[.slice aov qv capv] 25)) := ⟨_, rfl⟩
    rw [← hw] at b kv ⊢
    rw [← hRv] at kv ⊢
    clear hw hRv cc0 cc1 cc2 cc3
    replace hB := nextB hB b
    replace ia := ia.below b
    replace ib := ib.below b
    replace icr := icr.below b
    replace idr := idr.below b
    replace xx := xx.below b
    replace xy := xy.below b
    replace kx := kx.below b
    replace ky := ky.below b
    replace xz := xz.below b
    replace kz := kz.below b
    replace xv := xv.below b
    clear b
    refine (Sub_any ⟨_, rfl, xy⟩ ⟨_, rfl, xx⟩ 16384 (by omega) Hd.out).mono ?_
    rintro e w9 ⟨v_, rfl, j_, b⟩
    rw [if_pos (show d < c from HLT.out), if_neg (by omega)] at j_
    rw [if_pos (show d < c from HLT.out)]
    replace hB := nextB hB b
    replace ia := ia.below b
    replace ib := ib.below b
    replace icr := icr.below b
    replace idr := idr.below b
    replace xx := xx.below b
    replace xy := xy.below b
    replace kx := kx.below b
    replace ky := ky.below b
    replace xz := xz.below b
    replace kz := kz.below b
    replace xv := xv.below b
    replace kv := kv.below b
    clear b
    obtain ⟨aow, qw, capw, rfl, xw⟩ := j_.slice
    clear j_
    obtain ⟨b, kw⟩ := pro1 w9 (.slice aow qw capw)
    obtain ⟨Rw, hRw⟩ : ∃ R, R = w9.heap.size := ⟨_, rfl⟩
    have cc0 := (kx.below b).cell
    have cc1 := (ky.below b).cell
    have cc2 := (kz.below b).cell
    have cc3 := (kv.below b).cell
    have cc4 := kw.cell
    go_wp2_with fail
    obtain ⟨w10, hw⟩ : ∃ w_ : World, w_ = (w9.alloc (.cells #[.slice aow qw capw] 25)) := ⟨_, rfl⟩
    rw [← hw] at b kw ⊢
    rw [← hRw] at kw ⊢
    clear hw hRw cc0 cc1 cc2 cc3 cc4
    replace hB := nextB hB b
    replace ia := ia.below b
    replace ib := ib.below b
    replace icr := icr.below b
    replace idr := idr.below b
    replace xx := xx.below b
    replace xy := xy.below b
    replace kx := kx.below b
    replace ky := ky.below b
    replace xz := xz.below b
    replace kz := kz.below b
    replace xv := xv.below b
    replace kv := kv.below b
    replace xw := xw.below b
    clear b
    obtain ⟨wo, hwo⟩ : ∃ wo : World, wo = w10 := ⟨_, rfl⟩
    rw [← hwo] at hB ia ib icr idr xx xy kx ky xz kz xv kv xw kw ⊢
    clear hwo
    have cc0 := kx.cell
    have cc1 := ky.cell
    have cc2 := kz.cell
    have cc3 := kv.cell
    have cc4 := kw.cell
    have ltx := kx.lt
    have lty := ky.lt
    have ltz := kz.lt
    have ltv := kv.lt
    have ltw := kw.lt
    go_wp2
    go_region_held3 (fun w' => w'.cell? ⟨Rx, 0, none⟩ = some (.slice aox qx capx) ∧ w'.cell? ⟨Rx + 1, 0, none⟩ = some (.slice aoy qy capy) ∧ w'.cell? ⟨Rz, 0, none⟩ = some (.slice aoz qz capz) ∧ w'.cell? ⟨Rv, 0, none⟩ = some (.slice aov qv capv) ∧ w'.cell? ⟨Rw, 0, none⟩ = some (.slice aow qw capw) ∧ Below wo.heap.size wo w')
      (first
        | exact ⟨cc0, cc1, cc2, cc3, cc4, (Below.refl _ _).drew⟩
        | (go_split_ands; exact ⟨by assumption, by assumption, by assumption, by assumption, by assumption, by assumption⟩)
        | (go_split_ands; have hk := nextB (by assumption) bb; exact ⟨(hk.cell (p := ⟨Rx, 0, none⟩) ltx).trans cc0, (hk.cell (p := ⟨Rx + 1, 0, none⟩) lty).trans cc1, (hk.cell (p := ⟨Rz, 0, none⟩) ltz).trans cc2, (hk.cell (p := ⟨Rv, 0, none⟩) ltv).trans cc3, (hk.cell (p := ⟨Rw, 0, none⟩) ltw).trans cc4, hk⟩))
      (first
        | (go_at_call 45; go_split_ands; refine (Cmp_any (by first | exact ⟨_, rfl, xx.below (by assumption)⟩ | exact ⟨_, rfl, xy.below (by assumption)⟩) (by first | exact ⟨_, rfl, xx.below (by assumption)⟩ | exact ⟨_, rfl, xy.below (by assumption)⟩)).mono ?_; rintro e wq ⟨rfl, bb⟩)
        | (go_at_call 55; go_split_ands; refine (cmpR_any (by first | exact icr.below (by assumption) | exact idr.below (by assumption)) (by first | exact icr.below (by assumption) | exact idr.below (by assumption))).mono ?_; rintro e wq ⟨rfl, bb⟩)
        | (go_at_call 56; go_split_ands; refine (addR_any (icr.below (by assumption)) (idr.below (by assumption)) 16384 (by omega) Hc.out Hd.out).mono ?_; rintro e wq ⟨vr, rfl, ir, bb⟩)
        | (go_at_call 39; go_split_ands; refine (HFit.out _ _ (by assumption)).mono ?_; rintro e wq ⟨rfl, rfl⟩)
        | (go_at_call 34; go_split_ands; refine (told_any ⟨_, rfl, xz.below (by assumption)⟩ (by first | assumption | exact IsR.below (by assumption) (by assumption) | exact IsR.below (by assumption) (nextB (by assumption) (by assumption)) | exact IsR.below (by assumption) (nextB (nextB (by assumption) (by assumption)) (by assumption))) (fun _ => rfl) HE.out 16385 (by omega) HS.out).mono ?_; rintro e wq ⟨rfl, bb⟩))
    go_split_ands
    have b : Below wo.heap.size wo wq := by assumption
    obtain ⟨w11, hw⟩ : ∃ w_ : World, w_ = wq := ⟨_, rfl⟩
    rw [← hw] at b ⊢
    clear hw
    replace hB := nextB hB b
    replace ia := ia.below b
    replace ib := ib.below b
    replace icr := icr.below b
    replace idr := idr.below b
    replace xx := xx.below b
    replace xy := xy.below b
    replace kx := kx.below b
    replace ky := ky.below b
    replace xz := xz.below b
    replace kz := kz.below b
    replace xv := xv.below b
    replace kv := kv.below b
    replace xw := xw.below b
    replace kw := kw.below b
    clear b
    have cc0 := kx.cell
    have cc1 := ky.cell
    have cc2 := kz.cell
    have cc3 := kv.cell
    have cc4 := kw.cell
    go_wp2_with fail
    clear cc0 cc1 cc2 cc3 cc4
    refine (cmpR_any icr idr).mono ?_
    rintro e w12 ⟨rfl, b⟩
    rw [cmpI_gt HLT.out]
    replace hB := nextB hB b
    replace ia := ia.below b
    replace ib := ib.below b
    replace icr := icr.below b
    replace idr := idr.below b
    replace xx := xx.below b
    replace xy := xy.below b
    replace kx := kx.below b
    replace ky := ky.below b
    replace xz := xz.below b
    replace kz := kz.below b
    replace xv := xv.below b
    replace kv := kv.below b
    replace xw := xw.below b
    replace kw := kw.below b
    clear b
    have cc0 := kx.cell
    have cc1 := ky.cell
    have cc2 := kz.cell
    have cc3 := kv.cell
    have cc4 := kw.cell
    go_wp2_with fail
    clear cc0 cc1 cc2 cc3 cc4
    refine (cmpR_any icr idr).mono ?_
    rintro e w13 ⟨rfl, b⟩
    rw [cmpI_gt HLT.out]
    replace hB := nextB hB b
    replace ia := ia.below b
    replace ib := ib.below b
    replace icr := icr.below b
    replace idr := idr.below b
    replace xx := xx.below b
    replace xy := xy.below b
    replace kx := kx.below b
    replace ky := ky.below b
    replace xz := xz.below b
    replace kz := kz.below b
    replace xv := xv.below b
    replace kv := kv.below b
    replace xw := xw.below b
    replace kw := kw.below b
    clear b
    have T1 := Lib.hid (show ∀ w_, IsN w_ (.slice aow qw capw) 0 → Calls Try.prog 34 #[.agg #[.slice aow qw capw], .int .i64 10, .slice none 0 0, .int .i64 10] w_ (RetB w_ true) from fun w_ h => told_err (er := 10) ⟨_, rfl, h⟩ (by omega) (by omega) ⟨_, _, _, rfl⟩)
    have T2 := Lib.hid (show ∀ w_ vr, IsN w_ (.slice aov qv capv) (c - d) → IsR w_ vr (c - d) → Calls Try.prog 34 #[.agg #[.slice aov qv capv], .int .i64 0, vr, .int .i64 0] w_ (RetB w_ true) from fun w_ vr h h2 => told_ok ⟨_, rfl, h⟩ h2 16384 (by omega) (Nat.lt_of_le_of_lt (Nat.sub_le _ _) Hc.out))
    obtain ⟨wo, hwo⟩ : ∃ wo : World, wo = w13 := ⟨_, rfl⟩
    rw [← hwo] at hB ia ib icr idr xx xy kx ky xz kz xv kv xw kw ⊢
    clear hwo
    have cc0 := kx.cell
    have cc1 := ky.cell
    have cc2 := kz.cell
    have cc3 := kv.cell
    have cc4 := kw.cell
    have ltx := kx.lt
    have lty := ky.lt
    have ltz := kz.lt
    have ltv := kv.lt
    have ltw := kw.lt
    go_wp2
    go_region_held3 (fun w' => w'.cell? ⟨Rx, 0, none⟩ = some (.slice aox qx capx) ∧ w'.cell? ⟨Rx + 1, 0, none⟩ = some (.slice aoy qy capy) ∧ w'.cell? ⟨Rz, 0, none⟩ = some (.slice aoz qz capz) ∧ w'.cell? ⟨Rv, 0, none⟩ = some (.slice aov qv capv) ∧ w'.cell? ⟨Rw, 0, none⟩ = some (.slice aow qw capw) ∧ Below wo.heap.size wo w')
      (first
        | exact ⟨cc0, cc1, cc2, cc3, cc4, (Below.refl _ _).drew⟩
        | (go_split_ands; exact ⟨by assumption, by assumption, by assumption, by assumption, by assumption, by assumption⟩)
        | (go_split_ands; have hk := nextB (by assumption) bb; exact ⟨(hk.cell (p := ⟨Rx, 0, none⟩) ltx).trans cc0, (hk.cell (p := ⟨Rx + 1, 0, none⟩) lty).trans cc1, (hk.cell (p := ⟨Rz, 0, none⟩) ltz).trans cc2, (hk.cell (p := ⟨Rv, 0, none⟩) ltv).trans cc3, (hk.cell (p := ⟨Rw, 0, none⟩) ltw).trans cc4, hk⟩))
      (first
        | (go_at_call 57; go_split_ands; refine (subR_any (icr.below (by assumption)) (idr.below (by assumption)) 16384 (by omega) Hc.out (Nat.le_of_lt HLT.out)).mono ?_; rintro e wq ⟨vr, rfl, ir, bb⟩)
        | (go_at_call 34; go_split_ands; (first | (with_reducible refine (T1.out _ (xw.below (by assumption))).mono ?_) | (with_reducible refine (T2.out _ _ (xv.below (by assumption)) (by assumption)).mono ?_)); rintro e wq ⟨rfl, bb⟩)
        | (go_at_call 31; go_split_ands; refine (awake_any _).mono ?_; rintro e wq ⟨rfl, bb⟩))
    go_split_ands
    have hC := nextB hB (by assumption)
    go_wp2
    go_ret
    exact ⟨rfl, hC⟩

end Go.Proofs.Ytppbhjhbaknidaa
