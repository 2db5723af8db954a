/-
  The walk of the law NatRing. No condition. The walks of the laws NatBack, NatLcm. No condition.
-/
import Derived.Test.YtppbhjhbaknidaaZf
set_option linter.unusedVariables false
set_option linter.unusedSimpArgs false

/-
  The walk of the law NatRing. No condition.
-/
set_option linter.unusedVariables false
set_option linter.unusedSimpArgs false
namespace Go.Proofs.Ytppbhjhbaknidaa
open Go.RowKit

theorem errs_cell (w : World) (k : Nat) {t : Nat} (h : t < k) : (w.alloc (.cells (Array.replicate k (Value.int .i64 0)) 26)).cell? ⟨w.heap.size, t, none⟩ = some (.int .i64 0) := by
  rw [(Blk.new w _ _).cell t]
  simp [h]
theorem fit_ok {n : Nat} (h : n < P2 16384) : fitE n = 0 := if_pos h
theorem ring_ok {m n p : Nat} (hm : m < P2 (16 * 200)) (hn : n < P2 (16 * 200)) (hp : p < P2 (16 * 200)) :
    m + n < P2 16384 ∧ m + n + p < P2 16384 ∧ n + p < P2 16384 ∧ m * n < P2 16384 ∧ m * n * p < P2 16384 ∧ n * p < P2 16384 ∧ (m + n) * p < P2 16384 ∧ m * p < P2 16384 := by
  have a1 := add_lt_P2 hm hn
  have a2 := add_lt_P2 a1 (lt_P2_mono hp (show 16 * 200 ≤ 16 * 200 + 1 by omega))
  have a3 := add_lt_P2 hn hp
  have b1 := mul_lt_P2 hm hn
  have b2 := mul_lt_P2 b1 hp
  have b3 := mul_lt_P2 hn hp
  have b4 := mul_lt_P2 a1 hp
  have b5 := mul_lt_P2 hm hp
  exact ⟨lt_P2_mono a1 (by omega), lt_P2_mono a2 (by omega), lt_P2_mono a3 (by omega), lt_P2_mono b1 (by omega), lt_P2_mono b2 (by omega), lt_P2_mono b3 (by omega), lt_P2_mono b4 (by omega), lt_P2_mono b5 (by omega)⟩

set_option maxHeartbeats 8000000 in
set_option maxRecDepth 100000 in
theorem NatRing_walk (va : Value) (vb : Value) (vc : Value) (w : World) (ia : In16 w va) (ib : In16 w vb) (ic : In16 w vc) :
    Calls Try.prog 6 #[va, vb, vc] w (RetB w true) := by
  have hB := Below.refl w.heap.size w
  go_enter Try.func6, Try.ntmps6
  go_wp2_with fail
  refine (raw_any ia 200 (by omega)).mono ?_
  rintro e w1 ⟨m, hm, rm, rfl, imr, b⟩
  replace hB := nextB hB b
  replace ia := ia.below b
  replace ib := ib.below b
  replace ic := ic.below b
  clear b
  have Hm := Lib.hid hm
  clear hm
  go_wp2_with fail
  refine (raw_any ib 200 (by omega)).mono ?_
  rintro e w2 ⟨n, hn, rn, rfl, inr, b⟩
  replace hB := nextB hB b
  replace ia := ia.below b
  replace ib := ib.below b
  replace ic := ic.below b
  replace imr := imr.below b
  clear b
  have Hn := Lib.hid hn
  clear hn
  have Km := Hm
  have Hm := Lib.hid (lt_P2_mono Hm.out (show 16 * 200 ≤ 16384 by omega))
  have Kn := Hn
  have Hn := Lib.hid (lt_P2_mono Hn.out (show 16 * 200 ≤ 16384 by omega))
  go_wp2_with fail
  refine (two_any imr inr Hm.out Hn.out).mono ?_
  rintro e w3 ⟨u1, u2, rfl, j1, j2, b⟩
  obtain ⟨aox, qx, capx, rfl, xx⟩ := j1.slice
  clear j1
  obtain ⟨aoy, qy, capy, rfl, xy⟩ := j2.slice
  clear j2
  replace hB := nextB hB b
  replace ia := ia.below b
  replace ib := ib.below b
  replace ic := ic.below b
  replace imr := imr.below b
  replace inr := inr.below b
  clear b
  obtain ⟨b, kx, ky⟩ := pro2 w3 (.slice aox qx capx) (.slice aoy qy capy)
  obtain ⟨Rx, hRx⟩ : ∃ R, R = w3.heap.size := ⟨_, rfl⟩
  have cc0 := kx.cell
  have cc1 := ky.cell
  go_wp2_with fail
  obtain ⟨w4, hw⟩ : ∃ w_ : World, w_ = ((w3.alloc (.cells #[.slice aox qx capx] 25)).alloc (.cells #[.slice aoy qy capy] 25)) := ⟨_, rfl⟩
  rw [← hw] at b kx ky ⊢
  rw [← hRx] at kx ky ⊢
  clear hw hRx cc0 cc1
  replace hB := nextB hB b
  replace ia := ia.below b
  replace ib := ib.below b
  replace ic := ic.below b
  replace imr := imr.below b
  replace inr := inr.below b
  replace xx := xx.below b
  replace xy := xy.below b
  clear b
  refine (raw_any ic 200 (by omega)).mono ?_
  rintro e w5 ⟨p, hp, rp, rfl, ipr, b⟩
  replace hB := nextB hB b
  replace ia := ia.below b
  replace ib := ib.below b
  replace ic := ic.below b
  replace imr := imr.below b
  replace inr := inr.below b
  replace xx := xx.below b
  replace xy := xy.below b
  replace kx := kx.below b
  replace ky := ky.below b
  clear b
  have Hp := Lib.hid hp
  clear hp
  have Kp := Hp
  have Hp := Lib.hid (lt_P2_mono Hp.out (show 16 * 200 ≤ 16384 by omega))
  have cc0 := kx.cell
  have cc1 := ky.cell
  go_wp2_with fail
  clear cc0 cc1
  refine (made_any ipr Hp.out).mono ?_
  rintro e w6 ⟨v_, rfl, j_, b⟩
  obtain ⟨aoz, qz, capz, rfl, xz⟩ := j_.slice
  clear j_
  replace hB := nextB hB b
  replace ia := ia.below b
  replace ib := ib.below b
  replace ic := ic.below b
  replace imr := imr.below b
  replace inr := inr.below b
  replace xx := xx.below b
  replace xy := xy.below b
  replace kx := kx.below b
  replace ky := ky.below b
  replace ipr := ipr.below b
  clear b
  obtain ⟨b, kz⟩ := pro1 w6 (.slice aoz qz capz)
  obtain ⟨Rz, hRz⟩ : ∃ R, R = w6.heap.size := ⟨_, rfl⟩
  have cc0 := (kx.below b).cell
  have cc1 := (ky.below b).cell
  have cc2 := kz.cell
  go_wp2_with fail
  obtain ⟨w7, hw⟩ : ∃ w_ : World, w_ = (w6.alloc (.cells #[.slice aoz qz capz] 25)) := ⟨_, rfl⟩
  rw [← hw] at b kz ⊢
  rw [← hRz] at kz ⊢
  clear hw hRz cc0 cc1 cc2
  replace hB := nextB hB b
  replace ia := ia.below b
  replace ib := ib.below b
  replace ic := ic.below b
  replace imr := imr.below b
  replace inr := inr.below b
  replace xx := xx.below b
  replace xy := xy.below b
  replace kx := kx.below b
  replace ky := ky.below b
  replace ipr := ipr.below b
  replace xz := xz.below b
  clear b
  clear imr inr ipr
  have RK := Lib.hid (ring_ok Km.out Kn.out Kp.out)
  have Fs : Hid (fitE (m + n) = 0) := Lib.hid (fit_ok (RK.out.1))
  have Bs : Hid (m + n < P2 16384) := Lib.hid (RK.out.1)
  refine (Add_any ⟨_, rfl, xx⟩ ⟨_, rfl, xy⟩ 16384 (by omega) Hm.out Hn.out).mono ?_
  rintro e w8 ⟨v_, rfl, j_, b⟩
  rw [Fs.out, if_pos rfl] at j_
  rw [Fs.out]
  replace hB := nextB hB b
  replace ia := ia.below b
  replace ib := ib.below b
  replace ic := ic.below b
  replace xx := xx.below b
  replace xy := xy.below b
  replace kx := kx.below b
  replace ky := ky.below b
  replace xz := xz.below b
  replace kz := kz.below b
  clear b
  obtain ⟨aos, qs, caps, rfl, xs⟩ := j_.slice
  clear j_
  obtain ⟨b, ks⟩ := pro1 w8 (.slice aos qs caps)
  obtain ⟨Rs, hRs⟩ : ∃ R, R = w8.heap.size := ⟨_, rfl⟩
  have cc0 := (kx.below b).cell
  have cc1 := (ky.below b).cell
  have cc2 := (kz.below b).cell
  have cc3 := ks.cell
  go_wp2_with fail
  obtain ⟨w9, hw⟩ : ∃ w_ : World, w_ = (w8.alloc (.cells #[.slice aos qs caps] 25)) := ⟨_, rfl⟩
  rw [← hw] at b ks ⊢
  rw [← hRs] at ks ⊢
  clear hw hRs cc0 cc1 cc2 cc3
  replace hB := nextB hB b
  replace ia := ia.below b
  replace ib := ib.below b
  replace ic := ic.below b
  replace xx := xx.below b
  replace xy := xy.below b
  replace kx := kx.below b
  replace ky := ky.below b
  replace xz := xz.below b
  replace kz := kz.below b
  replace xs := xs.below b
  clear b
  have Ft : Hid (fitE (n + m) = 0) := Lib.hid (fit_ok (by rw [Nat.add_comm]; exact RK.out.1))
  have Bt : Hid (n + m < P2 16384) := Lib.hid (by rw [Nat.add_comm]; exact RK.out.1)
  refine (Add_any ⟨_, rfl, xy⟩ ⟨_, rfl, xx⟩ 16384 (by omega) Hn.out Hm.out).mono ?_
  rintro e w10 ⟨v_, rfl, j_, b⟩
  rw [Ft.out, if_pos rfl] at j_
  rw [Ft.out]
  replace hB := nextB hB b
  replace ia := ia.below b
  replace ib := ib.below b
  replace ic := ic.below b
  replace xx := xx.below b
  replace xy := xy.below b
  replace kx := kx.below b
  replace ky := ky.below b
  replace xz := xz.below b
  replace kz := kz.below b
  replace xs := xs.below b
  replace ks := ks.below b
  clear b
  obtain ⟨aot, qt, capt, rfl, xt⟩ := j_.slice
  clear j_
  obtain ⟨b, kt⟩ := pro1 w10 (.slice aot qt capt)
  obtain ⟨Rt, hRt⟩ : ∃ R, R = w10.heap.size := ⟨_, rfl⟩
  have cc0 := (kx.below b).cell
  have cc1 := (ky.below b).cell
  have cc2 := (kz.below b).cell
  have cc3 := (ks.below b).cell
  have cc4 := kt.cell
  go_wp2_with fail
  obtain ⟨w11, hw⟩ : ∃ w_ : World, w_ = (w10.alloc (.cells #[.slice aot qt capt] 25)) := ⟨_, rfl⟩
  rw [← hw] at b kt ⊢
  rw [← hRt] at kt ⊢
  clear hw hRt cc0 cc1 cc2 cc3 cc4
  replace hB := nextB hB b
  replace ia := ia.below b
  replace ib := ib.below b
  replace ic := ic.below b
  replace xx := xx.below b
  replace xy := xy.below b
  replace kx := kx.below b
  replace ky := ky.below b
  replace xz := xz.below b
  replace kz := kz.below b
  replace xs := xs.below b
  replace ks := ks.below b
  replace xt := xt.below b
  clear b
  have Fu : Hid (fitE (m + n + p) = 0) := Lib.hid (fit_ok (RK.out.2.1))
  have Bu : Hid (m + n + p < P2 16384) := Lib.hid (RK.out.2.1)
  refine (Add_any ⟨_, rfl, xs⟩ ⟨_, rfl, xz⟩ 16384 (by omega) Bs.out Hp.out).mono ?_
  rintro e w12 ⟨v_, rfl, j_, b⟩
  rw [Fu.out, if_pos rfl] at j_
  rw [Fu.out]
  replace hB := nextB hB b
  replace ia := ia.below b
  replace ib := ib.below b
  replace ic := ic.below b
  replace xx := xx.below b
  replace xy := xy.below b
  replace kx := kx.below b
  replace ky := ky.below b
  replace xz := xz.below b
  replace kz := kz.below b
  replace xs := xs.below b
  replace ks := ks.below b
  replace xt := xt.below b
  replace kt := kt.below b
  clear b
  obtain ⟨aou, qu, capu, rfl, xu⟩ := j_.slice
  clear j_
  obtain ⟨b, ku⟩ := pro1 w12 (.slice aou qu capu)
  obtain ⟨Ru, hRu⟩ : ∃ R, R = w12.heap.size := ⟨_, rfl⟩
  have cc0 := (kx.below b).cell
  have cc1 := (ky.below b).cell
  have cc2 := (kz.below b).cell
  have cc3 := (ks.below b).cell
  have cc4 := (kt.below b).cell
  have cc5 := ku.cell
  go_wp2_with fail
  obtain ⟨w13, hw⟩ : ∃ w_ : World, w_ = (w12.alloc (.cells #[.slice aou qu capu] 25)) := ⟨_, rfl⟩
  rw [← hw] at b ku ⊢
  rw [← hRu] at ku ⊢
  clear hw hRu cc0 cc1 cc2 cc3 cc4 cc5
  replace hB := nextB hB b
  replace ia := ia.below b
  replace ib := ib.below b
  replace ic := ic.below b
  replace xx := xx.below b
  replace xy := xy.below b
  replace kx := kx.below b
  replace ky := ky.below b
  replace xz := xz.below b
  replace kz := kz.below b
  replace xs := xs.below b
  replace ks := ks.below b
  replace xt := xt.below b
  replace kt := kt.below b
  replace xu := xu.below b
  clear b
  have Fv : Hid (fitE (n + p) = 0) := Lib.hid (fit_ok (RK.out.2.2.1))
  have Bv : Hid (n + p < P2 16384) := Lib.hid (RK.out.2.2.1)
  refine (Add_any ⟨_, rfl, xy⟩ ⟨_, rfl, xz⟩ 16384 (by omega) Hn.out Hp.out).mono ?_
  rintro e w14 ⟨v_, rfl, j_, b⟩
  rw [Fv.out, if_pos rfl] at j_
  rw [Fv.out]
  replace hB := nextB hB b
  replace ia := ia.below b
  replace ib := ib.below b
  replace ic := ic.below b
  replace xx := xx.below b
  replace xy := xy.below b
  replace kx := kx.below b
  replace ky := ky.below b
  replace xz := xz.below b
  replace kz := kz.below b
  replace xs := xs.below b
  replace ks := ks.below b
  replace xt := xt.below b
  replace kt := kt.below b
  replace xu := xu.below b
  replace ku := ku.below b
  clear b
  obtain ⟨aov, qv, capv, rfl, xv⟩ := j_.slice
  clear j_
  obtain ⟨b, kv⟩ := pro1 w14 (.slice aov qv capv)
  obtain ⟨Rv, hRv⟩ : ∃ R, R = w14.heap.size := ⟨_, rfl⟩
  have cc0 := (kx.below b).cell
  have cc1 := (ky.below b).cell
  have cc2 := (kz.below b).cell
  have cc3 := (ks.below b).cell
  have cc4 := (kt.below b).cell
  have cc5 := (ku.below b).cell
  have cc6 := kv.cell
  go_wp2_with fail
  obtain ⟨w15, hw⟩ : ∃ w_ : World, w_ = (w14.alloc (.cells #[.slice aov qv capv] 25)) := ⟨_, rfl⟩
  rw [← hw] at b kv ⊢
  rw [← hRv] at kv ⊢
  clear hw hRv cc0 cc1 cc2 cc3 cc4 cc5 cc6
  replace hB := nextB hB b
  replace ia := ia.below b
  replace ib := ib.below b
  replace ic := ic.below b
  replace xx := xx.below b
  replace xy := xy.below b
  replace kx := kx.below b
  replace ky := ky.below b
  replace xz := xz.below b
  replace kz := kz.below b
  replace xs := xs.below b
  replace ks := ks.below b
  replace xt := xt.below b
  replace kt := kt.below b
  replace xu := xu.below b
  replace ku := ku.below b
  replace xv := xv.below b
  clear b
  have Fw : Hid (fitE (m + (n + p)) = 0) := Lib.hid (fit_ok (by rw [← Nat.add_assoc]; exact RK.out.2.1))
  have Bw : Hid (m + (n + p) < P2 16384) := Lib.hid (by rw [← Nat.add_assoc]; exact RK.out.2.1)
  refine (Add_any ⟨_, rfl, xx⟩ ⟨_, rfl, xv⟩ 16384 (by omega) Hm.out Bv.out).mono ?_
  rintro e w16 ⟨v_, rfl, j_, b⟩
  rw [Fw.out, if_pos rfl] at j_
  rw [Fw.out]
  replace hB := nextB hB b
  replace ia := ia.below b
  replace ib := ib.below b
  replace ic := ic.below b
  replace xx := xx.below b
  replace xy := xy.below b
  replace kx := kx.below b
  replace ky := ky.below b
  replace xz := xz.below b
  replace kz := kz.below b
  replace xs := xs.below b
  replace ks := ks.below b
  replace xt := xt.below b
  replace kt := kt.below b
  replace xu := xu.below b
  replace ku := ku.below b
  replace xv := xv.below b
  replace kv := kv.below b
  clear b
  obtain ⟨aow, qw, capw, rfl, xw⟩ := j_.slice
  clear j_
  obtain ⟨b, kw⟩ := pro1 w16 (.slice aow qw capw)
  obtain ⟨Rw, hRw⟩ : ∃ R, R = w16.heap.size := ⟨_, rfl⟩
  have cc0 := (kx.below b).cell
  have cc1 := (ky.below b).cell
  have cc2 := (kz.below b).cell
  have cc3 := (ks.below b).cell
  have cc4 := (kt.below b).cell
  have cc5 := (ku.below b).cell
  have cc6 := (kv.below b).cell
  have cc7 := kw.cell
  go_wp2_with fail
  obtain ⟨w17, hw⟩ : ∃ w_ : World, w_ = (w16.alloc (.cells #[.slice aow qw capw] 25)) := ⟨_, rfl⟩
  rw [← hw] at b kw ⊢
  rw [← hRw] at kw ⊢
  clear hw hRw cc0 cc1 cc2 cc3 cc4 cc5 cc6 cc7
  replace hB := nextB hB b
  replace ia := ia.below b
  replace ib := ib.below b
  replace ic := ic.below b
  replace xx := xx.below b
  replace xy := xy.below b
  replace kx := kx.below b
  replace ky := ky.below b
  replace xz := xz.below b
  replace kz := kz.below b
  replace xs := xs.below b
  replace ks := ks.below b
  replace xt := xt.below b
  replace kt := kt.below b
  replace xu := xu.below b
  replace ku := ku.below b
  replace xv := xv.below b
  replace kv := kv.below b
  replace xw := xw.below b
  clear b
  have Fp : Hid (fitE (m * n) = 0) := Lib.hid (fit_ok (RK.out.2.2.2.1))
  have Bp : Hid (m * n < P2 16384) := Lib.hid (RK.out.2.2.2.1)
  refine (Mul_any ⟨_, rfl, xx⟩ ⟨_, rfl, xy⟩ 16384 (by omega) Hm.out Hn.out).mono ?_
  rintro e w18 ⟨v_, rfl, j_, b⟩
  rw [Fp.out, if_pos rfl] at j_
  rw [Fp.out]
  replace hB := nextB hB b
  replace ia := ia.below b
  replace ib := ib.below b
  replace ic := ic.below b
  replace xx := xx.below b
  replace xy := xy.below b
  replace kx := kx.below b
  replace ky := ky.below b
  replace xz := xz.below b
  replace kz := kz.below b
  replace xs := xs.below b
  replace ks := ks.below b
  replace xt := xt.below b
  replace kt := kt.below b
  replace xu := xu.below b
  replace ku := ku.below b
  replace xv := xv.below b
  replace kv := kv.below b
  replace xw := xw.below b
  replace kw := kw.below b
  clear b
  obtain ⟨aop, qp, capp, rfl, xp⟩ := j_.slice
  clear j_
  obtain ⟨b, kp⟩ := pro1 w18 (.slice aop qp capp)
  obtain ⟨Rp, hRp⟩ : ∃ R, R = w18.heap.size := ⟨_, rfl⟩
  have cc0 := (kx.below b).cell
  have cc1 := (ky.below b).cell
  have cc2 := (kz.below b).cell
  have cc3 := (ks.below b).cell
  have cc4 := (kt.below b).cell
  have cc5 := (ku.below b).cell
  have cc6 := (kv.below b).cell
  have cc7 := (kw.below b).cell
  have cc8 := kp.cell
  go_wp2_with fail
  obtain ⟨w19, hw⟩ : ∃ w_ : World, w_ = (w18.alloc (.cells #[.slice aop qp capp] 25)) := ⟨_, rfl⟩
  rw [← hw] at b kp ⊢
  rw [← hRp] at kp ⊢
  clear hw hRp cc0 cc1 cc2 cc3 cc4 cc5 cc6 cc7 cc8
  replace hB := nextB hB b
  replace ia := ia.below b
  replace ib := ib.below b
  replace ic := ic.below b
  replace xx := xx.below b
  replace xy := xy.below b
  replace kx := kx.below b
  replace ky := ky.below b
  replace xz := xz.below b
  replace kz := kz.below b
  replace xs := xs.below b
  replace ks := ks.below b
  replace xt := xt.below b
  replace kt := kt.below b
  replace xu := xu.below b
  replace ku := ku.below b
  replace xv := xv.below b
  replace kv := kv.below b
  replace xw := xw.below b
  replace kw := kw.below b
  replace xp := xp.below b
  clear b
  have Fq : Hid (fitE (n * m) = 0) := Lib.hid (fit_ok (by rw [Nat.mul_comm]; exact RK.out.2.2.2.1))
  have Bq : Hid (n * m < P2 16384) := Lib.hid (by rw [Nat.mul_comm]; exact RK.out.2.2.2.1)
  refine (Mul_any ⟨_, rfl, xy⟩ ⟨_, rfl, xx⟩ 16384 (by omega) Hn.out Hm.out).mono ?_
  rintro e w20 ⟨v_, rfl, j_, b⟩
  rw [Fq.out, if_pos rfl] at j_
  rw [Fq.out]
  replace hB := nextB hB b
  replace ia := ia.below b
  replace ib := ib.below b
  replace ic := ic.below b
  replace xx := xx.below b
  replace xy := xy.below b
  replace kx := kx.below b
  replace ky := ky.below b
  replace xz := xz.below b
  replace kz := kz.below b
  replace xs := xs.below b
  replace ks := ks.below b
  replace xt := xt.below b
  replace kt := kt.below b
  replace xu := xu.below b
  replace ku := ku.below b
  replace xv := xv.below b
  replace kv := kv.below b
  replace xw := xw.below b
  replace kw := kw.below b
  replace xp := xp.below b
  replace kp := kp.below b
  clear b
  obtain ⟨aoq, qq, capq, rfl, xq⟩ := j_.slice
  clear j_
  obtain ⟨b, kq⟩ := pro1 w20 (.slice aoq qq capq)
  obtain ⟨Rq, hRq⟩ : ∃ R, R = w20.heap.size := ⟨_, rfl⟩
  have cc0 := (kx.below b).cell
  have cc1 := (ky.below b).cell
  have cc2 := (kz.below b).cell
  have cc3 := (ks.below b).cell
  have cc4 := (kt.below b).cell
  have cc5 := (ku.below b).cell
  have cc6 := (kv.below b).cell
  have cc7 := (kw.below b).cell
  have cc8 := (kp.below b).cell
  have cc9 := kq.cell
  go_wp2_with fail
  obtain ⟨w21, hw⟩ : ∃ w_ : World, w_ = (w20.alloc (.cells #[.slice aoq qq capq] 25)) := ⟨_, rfl⟩
  rw [← hw] at b kq ⊢
  rw [← hRq] at kq ⊢
  clear hw hRq cc0 cc1 cc2 cc3 cc4 cc5 cc6 cc7 cc8 cc9
  replace hB := nextB hB b
  replace ia := ia.below b
  replace ib := ib.below b
  replace ic := ic.below b
  replace xx := xx.below b
  replace xy := xy.below b
  replace kx := kx.below b
  replace ky := ky.below b
  replace xz := xz.below b
  replace kz := kz.below b
  replace xs := xs.below b
  replace ks := ks.below b
  replace xt := xt.below b
  replace kt := kt.below b
  replace xu := xu.below b
  replace ku := ku.below b
  replace xv := xv.below b
  replace kv := kv.below b
  replace xw := xw.below b
  replace kw := kw.below b
  replace xp := xp.below b
  replace kp := kp.below b
  replace xq := xq.below b
  clear b
  have Fl : Hid (fitE (m * n * p) = 0) := Lib.hid (fit_ok (RK.out.2.2.2.2.1))
  have Bl : Hid (m * n * p < P2 16384) := Lib.hid (RK.out.2.2.2.2.1)
  refine (Mul_any ⟨_, rfl, xp⟩ ⟨_, rfl, xz⟩ 16384 (by omega) Bp.out Hp.out).mono ?_
  rintro e w22 ⟨v_, rfl, j_, b⟩
  rw [Fl.out, if_pos rfl] at j_
  rw [Fl.out]
  replace hB := nextB hB b
  replace ia := ia.below b
  replace ib := ib.below b
  replace ic := ic.below b
  replace xx := xx.below b
  replace xy := xy.below b
  replace kx := kx.below b
  replace ky := ky.below b
  replace xz := xz.below b
  replace kz := kz.below b
  replace xs := xs.below b
  replace ks := ks.below b
  replace xt := xt.below b
  replace kt := kt.below b
  replace xu := xu.below b
  replace ku := ku.below b
  replace xv := xv.below b
  replace kv := kv.below b
  replace xw := xw.below b
  replace kw := kw.below b
  replace xp := xp.below b
  replace kp := kp.below b
  replace xq := xq.below b
  replace kq := kq.below b
  clear b
  obtain ⟨aol, ql, capl, rfl, xl⟩ := j_.slice
  clear j_
  obtain ⟨b, kl⟩ := pro1 w22 (.slice aol ql capl)
  obtain ⟨Rl, hRl⟩ : ∃ R, R = w22.heap.size := ⟨_, rfl⟩
  have cc0 := (kx.below b).cell
  have cc1 := (ky.below b).cell
  have cc2 := (kz.below b).cell
  have cc3 := (ks.below b).cell
  have cc4 := (kt.below b).cell
  have cc5 := (ku.below b).cell
  have cc6 := (kv.below b).cell
  have cc7 := (kw.below b).cell
  have cc8 := (kp.below b).cell
  have cc9 := (kq.below b).cell
  have cc10 := kl.cell
  go_wp2_with fail
  obtain ⟨w23, hw⟩ : ∃ w_ : World, w_ = (w22.alloc (.cells #[.slice aol ql capl] 25)) := ⟨_, rfl⟩
  rw [← hw] at b kl ⊢
  rw [← hRl] at kl ⊢
  clear hw hRl cc0 cc1 cc2 cc3 cc4 cc5 cc6 cc7 cc8 cc9 cc10
  replace hB := nextB hB b
  replace ia := ia.below b
  replace ib := ib.below b
  replace ic := ic.below b
  replace xx := xx.below b
  replace xy := xy.below b
  replace kx := kx.below b
  replace ky := ky.below b
  replace xz := xz.below b
  replace kz := kz.below b
  replace xs := xs.below b
  replace ks := ks.below b
  replace xt := xt.below b
  replace kt := kt.below b
  replace xu := xu.below b
  replace ku := ku.below b
  replace xv := xv.below b
  replace kv := kv.below b
  replace xw := xw.below b
  replace kw := kw.below b
  replace xp := xp.below b
  replace kp := kp.below b
  replace xq := xq.below b
  replace kq := kq.below b
  replace xl := xl.below b
  clear b
  have Fm : Hid (fitE (n * p) = 0) := Lib.hid (fit_ok (RK.out.2.2.2.2.2.1))
  have Bm : Hid (n * p < P2 16384) := Lib.hid (RK.out.2.2.2.2.2.1)
  refine (Mul_any ⟨_, rfl, xy⟩ ⟨_, rfl, xz⟩ 16384 (by omega) Hn.out Hp.out).mono ?_
  rintro e w24 ⟨v_, rfl, j_, b⟩
  rw [Fm.out, if_pos rfl] at j_
  rw [Fm.out]
  replace hB := nextB hB b
  replace ia := ia.below b
  replace ib := ib.below b
  replace ic := ic.below b
  replace xx := xx.below b
  replace xy := xy.below b
  replace kx := kx.below b
  replace ky := ky.below b
  replace xz := xz.below b
  replace kz := kz.below b
  replace xs := xs.below b
  replace ks := ks.below b
  replace xt := xt.below b
  replace kt := kt.below b
  replace xu := xu.below b
  replace ku := ku.below b
  replace xv := xv.below b
  replace kv := kv.below b
  replace xw := xw.below b
  replace kw := kw.below b
  replace xp := xp.below b
  replace kp := kp.below b
  replace xq := xq.below b
  replace kq := kq.below b
  replace xl := xl.below b
  replace kl := kl.below b
  clear b
  obtain ⟨aom, qm, capm, rfl, xm⟩ := j_.slice
  clear j_
  obtain ⟨b, km⟩ := pro1 w24 (.slice aom qm capm)
  obtain ⟨Rm, hRm⟩ : ∃ R, R = w24.heap.size := ⟨_, rfl⟩
  have cc0 := (kx.below b).cell
  have cc1 := (ky.below b).cell
  have cc2 := (kz.below b).cell
  have cc3 := (ks.below b).cell
  have cc4 := (kt.below b).cell
  have cc5 := (ku.below b).cell
  have cc6 := (kv.below b).cell
  have cc7 := (kw.below b).cell
  have cc8 := (kp.below b).cell
  have cc9 := (kq.below b).cell
  have cc10 := (kl.below b).cell
  have cc11 := km.cell
  go_wp2_with fail
  obtain ⟨w25, hw⟩ : ∃ w_ : World, w_ = (w24.alloc (.cells #[.slice aom qm capm] 25)) := ⟨_, rfl⟩
  rw [← hw] at b km ⊢
  rw [← hRm] at km ⊢
  clear hw hRm cc0 cc1 cc2 cc3 cc4 cc5 cc6 cc7 cc8 cc9 cc10 cc11
  replace hB := nextB hB b
  replace ia := ia.below b
  replace ib := ib.below b
  replace ic := ic.below b
  replace xx := xx.below b
  replace xy := xy.below b
  replace kx := kx.below b
  replace ky := ky.below b
  replace xz := xz.below b
  replace kz := kz.below b
  replace xs := xs.below b
  replace ks := ks.below b
  replace xt := xt.below b
  replace kt := kt.below b
  replace xu := xu.below b
  replace ku := ku.below b
  replace xv := xv.below b
  replace kv := kv.below b
  replace xw := xw.below b
  replace kw := kw.below b
  replace xp := xp.below b
  replace kp := kp.below b
  replace xq := xq.below b
  replace kq := kq.below b
  replace xl := xl.below b
  replace kl := kl.below b
  replace xm := xm.below b
  clear b
  have Fn : Hid (fitE (m * (n * p)) = 0) := Lib.hid (fit_ok (by rw [← Nat.mul_assoc]; exact RK.out.2.2.2.2.1))
  have Bn : Hid (m * (n * p) < P2 16384) := Lib.hid (by rw [← Nat.mul_assoc]; exact RK.out.2.2.2.2.1)
  refine (Mul_any ⟨_, rfl, xx⟩ ⟨_, rfl, xm⟩ 16384 (by omega) Hm.out Bm.out).mono ?_
  rintro e w26 ⟨v_, rfl, j_, b⟩
  rw [Fn.out, if_pos rfl] at j_
  rw [Fn.out]
  replace hB := nextB hB b
  replace ia := ia.below b
  replace ib := ib.below b
  replace ic := ic.below b
  replace xx := xx.below b
  replace xy := xy.below b
  replace kx := kx.below b
  replace ky := ky.below b
  replace xz := xz.below b
  replace kz := kz.below b
  replace xs := xs.below b
  replace ks := ks.below b
  replace xt := xt.below b
  replace kt := kt.below b
  replace xu := xu.below b
  replace ku := ku.below b
  replace xv := xv.below b
  replace kv := kv.below b
  replace xw := xw.below b
  replace kw := kw.below b
  replace xp := xp.below b
  replace kp := kp.below b
  replace xq := xq.below b
  replace kq := kq.below b
  replace xl := xl.below b
  replace kl := kl.below b
  replace xm := xm.below b
  replace km := km.below b
  clear b
  obtain ⟨aon, qn, capn, rfl, xn⟩ := j_.slice
  clear j_
  obtain ⟨b, kn⟩ := pro1 w26 (.slice aon qn capn)
  obtain ⟨Rn, hRn⟩ : ∃ R, R = w26.heap.size := ⟨_, rfl⟩
  have cc0 := (kx.below b).cell
  have cc1 := (ky.below b).cell
  have cc2 := (kz.below b).cell
  have cc3 := (ks.below b).cell
  have cc4 := (kt.below b).cell
  have cc5 := (ku.below b).cell
  have cc6 := (kv.below b).cell
  have cc7 := (kw.below b).cell
  have cc8 := (kp.below b).cell
  have cc9 := (kq.below b).cell
  have cc10 := (kl.below b).cell
  have cc11 := (km.below b).cell
  have cc12 := kn.cell
  go_wp2_with fail
  obtain ⟨w27, hw⟩ : ∃ w_ : World, w_ = (w26.alloc (.cells #[.slice aon qn capn] 25)) := ⟨_, rfl⟩
  rw [← hw] at b kn ⊢
  rw [← hRn] at kn ⊢
  clear hw hRn cc0 cc1 cc2 cc3 cc4 cc5 cc6 cc7 cc8 cc9 cc10 cc11 cc12
  replace hB := nextB hB b
  replace ia := ia.below b
  replace ib := ib.below b
  replace ic := ic.below b
  replace xx := xx.below b
  replace xy := xy.below b
  replace kx := kx.below b
  replace ky := ky.below b
  replace xz := xz.below b
  replace kz := kz.below b
  replace xs := xs.below b
  replace ks := ks.below b
  replace xt := xt.below b
  replace kt := kt.below b
  replace xu := xu.below b
  replace ku := ku.below b
  replace xv := xv.below b
  replace kv := kv.below b
  replace xw := xw.below b
  replace kw := kw.below b
  replace xp := xp.below b
  replace kp := kp.below b
  replace xq := xq.below b
  replace kq := kq.below b
  replace xl := xl.below b
  replace kl := kl.below b
  replace xm := xm.below b
  replace km := km.below b
  replace xn := xn.below b
  clear b
  have Fi : Hid (fitE ((m + n) * p) = 0) := Lib.hid (fit_ok (RK.out.2.2.2.2.2.2.1))
  have Bi : Hid ((m + n) * p < P2 16384) := Lib.hid (RK.out.2.2.2.2.2.2.1)
  refine (Mul_any ⟨_, rfl, xs⟩ ⟨_, rfl, xz⟩ 16384 (by omega) Bs.out Hp.out).mono ?_
  rintro e w28 ⟨v_, rfl, j_, b⟩
  rw [Fi.out, if_pos rfl] at j_
  rw [Fi.out]
  replace hB := nextB hB b
  replace ia := ia.below b
  replace ib := ib.below b
  replace ic := ic.below b
  replace xx := xx.below b
  replace xy := xy.below b
  replace kx := kx.below b
  replace ky := ky.below b
  replace xz := xz.below b
  replace kz := kz.below b
  replace xs := xs.below b
  replace ks := ks.below b
  replace xt := xt.below b
  replace kt := kt.below b
  replace xu := xu.below b
  replace ku := ku.below b
  replace xv := xv.below b
  replace kv := kv.below b
  replace xw := xw.below b
  replace kw := kw.below b
  replace xp := xp.below b
  replace kp := kp.below b
  replace xq := xq.below b
  replace kq := kq.below b
  replace xl := xl.below b
  replace kl := kl.below b
  replace xm := xm.below b
  replace km := km.below b
  replace xn := xn.below b
  replace kn := kn.below b
  clear b
  obtain ⟨aoi, qi, capi, rfl, xi⟩ := j_.slice
  clear j_
  obtain ⟨b, ki⟩ := pro1 w28 (.slice aoi qi capi)
  obtain ⟨Ri, hRi⟩ : ∃ R, R = w28.heap.size := ⟨_, rfl⟩
  have cc0 := (kx.below b).cell
  have cc1 := (ky.below b).cell
  have cc2 := (kz.below b).cell
  have cc3 := (ks.below b).cell
  have cc4 := (kt.below b).cell
  have cc5 := (ku.below b).cell
  have cc6 := (kv.below b).cell
  have cc7 := (kw.below b).cell
  have cc8 := (kp.below b).cell
  have cc9 := (kq.below b).cell
  have cc10 := (kl.below b).cell
  have cc11 := (km.below b).cell
  have cc12 := (kn.below b).cell
  have cc13 := ki.cell
  go_wp2_with fail
  obtain ⟨w29, hw⟩ : ∃ w_ : World, w_ = (w28.alloc (.cells #[.slice aoi qi capi] 25)) := ⟨_, rfl⟩
  rw [← hw] at b ki ⊢
  rw [← hRi] at ki ⊢
  clear hw hRi cc0 cc1 cc2 cc3 cc4 cc5 cc6 cc7 cc8 cc9 cc10 cc11 cc12 cc13
  replace hB := nextB hB b
  replace ia := ia.below b
  replace ib := ib.below b
  replace ic := ic.below b
  replace xx := xx.below b
  replace xy := xy.below b
  replace kx := kx.below b
  replace ky := ky.below b
  replace xz := xz.below b
  replace kz := kz.below b
  replace xs := xs.below b
  replace ks := ks.below b
  replace xt := xt.below b
  replace kt := kt.below b
  replace xu := xu.below b
  replace ku := ku.below b
  replace xv := xv.below b
  replace kv := kv.below b
  replace xw := xw.below b
  replace kw := kw.below b
  replace xp := xp.below b
  replace kp := kp.below b
  replace xq := xq.below b
  replace kq := kq.below b
  replace xl := xl.below b
  replace kl := kl.below b
  replace xm := xm.below b
  replace km := km.below b
  replace xn := xn.below b
  replace kn := kn.below b
  replace xi := xi.below b
  clear b
  have Fj : Hid (fitE (m * p) = 0) := Lib.hid (fit_ok (RK.out.2.2.2.2.2.2.2))
  have Bj : Hid (m * p < P2 16384) := Lib.hid (RK.out.2.2.2.2.2.2.2)
  refine (Mul_any ⟨_, rfl, xx⟩ ⟨_, rfl, xz⟩ 16384 (by omega) Hm.out Hp.out).mono ?_
  rintro e w30 ⟨v_, rfl, j_, b⟩
  rw [Fj.out, if_pos rfl] at j_
  rw [Fj.out]
  replace hB := nextB hB b
  replace ia := ia.below b
  replace ib := ib.below b
  replace ic := ic.below b
  replace xx := xx.below b
  replace xy := xy.below b
  replace kx := kx.below b
  replace ky := ky.below b
  replace xz := xz.below b
  replace kz := kz.below b
  replace xs := xs.below b
  replace ks := ks.below b
  replace xt := xt.below b
  replace kt := kt.below b
  replace xu := xu.below b
  replace ku := ku.below b
  replace xv := xv.below b
  replace kv := kv.below b
  replace xw := xw.below b
  replace kw := kw.below b
  replace xp := xp.below b
  replace kp := kp.below b
  replace xq := xq.below b
  replace kq := kq.below b
  replace xl := xl.below b
  replace kl := kl.below b
  replace xm := xm.below b
  replace km := km.below b
  replace xn := xn.below b
  replace kn := kn.below b
  replace xi := xi.below b
  replace ki := ki.below b
  clear b
  obtain ⟨aoj, qj, capj, rfl, xj⟩ := j_.slice
  clear j_
  obtain ⟨b, kj⟩ := pro1 w30 (.slice aoj qj capj)
  obtain ⟨Rj, hRj⟩ : ∃ R, R = w30.heap.size := ⟨_, rfl⟩
  have cc0 := (kx.below b).cell
  have cc1 := (ky.below b).cell
  have cc2 := (kz.below b).cell
  have cc3 := (ks.below b).cell
  have cc4 := (kt.below b).cell
  have cc5 := (ku.below b).cell
  have cc6 := (kv.below b).cell
  have cc7 := (kw.below b).cell
  have cc8 := (kp.below b).cell
  have cc9 := (kq.below b).cell
  have cc10 := (kl.below b).cell
  have cc11 := (km.below b).cell
  have cc12 := (kn.below b).cell
  have cc13 := (ki.below b).cell
  have cc14 := kj.cell
  go_wp2_with fail
  obtain ⟨w31, hw⟩ : ∃ w_ : World, w_ = (w30.alloc (.cells #[.slice aoj qj capj] 25)) := ⟨_, rfl⟩
  rw [← hw] at b kj ⊢
  rw [← hRj] at kj ⊢
  clear hw hRj cc0 cc1 cc2 cc3 cc4 cc5 cc6 cc7 cc8 cc9 cc10 cc11 cc12 cc13 cc14
  replace hB := nextB hB b
  replace ia := ia.below b
  replace ib := ib.below b
  replace ic := ic.below b
  replace xx := xx.below b
  replace xy := xy.below b
  replace kx := kx.below b
  replace ky := ky.below b
  replace xz := xz.below b
  replace kz := kz.below b
  replace xs := xs.below b
  replace ks := ks.below b
  replace xt := xt.below b
  replace kt := kt.below b
  replace xu := xu.below b
  replace ku := ku.below b
  replace xv := xv.below b
  replace kv := kv.below b
  replace xw := xw.below b
  replace kw := kw.below b
  replace xp := xp.below b
  replace kp := kp.below b
  replace xq := xq.below b
  replace kq := kq.below b
  replace xl := xl.below b
  replace kl := kl.below b
  replace xm := xm.below b
  replace km := km.below b
  replace xn := xn.below b
  replace kn := kn.below b
  replace xi := xi.below b
  replace ki := ki.below b
  replace xj := xj.below b
  clear b
  have Fk : Hid (fitE (m * p + n * p) = 0) := Lib.hid (fit_ok (by rw [← Nat.add_mul]; exact RK.out.2.2.2.2.2.2.1))
  have Bk : Hid (m * p + n * p < P2 16384) := Lib.hid (by rw [← Nat.add_mul]; exact RK.out.2.2.2.2.2.2.1)
  refine (Add_any ⟨_, rfl, xj⟩ ⟨_, rfl, xm⟩ 16384 (by omega) Bj.out Bm.out).mono ?_
  rintro e w32 ⟨v_, rfl, j_, b⟩
  rw [Fk.out, if_pos rfl] at j_
  rw [Fk.out]
  replace hB := nextB hB b
  replace ia := ia.below b
  replace ib := ib.below b
  replace ic := ic.below b
  replace xx := xx.below b
  replace xy := xy.below b
  replace kx := kx.below b
  replace ky := ky.below b
  replace xz := xz.below b
  replace kz := kz.below b
  replace xs := xs.below b
  replace ks := ks.below b
  replace xt := xt.below b
  replace kt := kt.below b
  replace xu := xu.below b
  replace ku := ku.below b
  replace xv := xv.below b
  replace kv := kv.below b
  replace xw := xw.below b
  replace kw := kw.below b
  replace xp := xp.below b
  replace kp := kp.below b
  replace xq := xq.below b
  replace kq := kq.below b
  replace xl := xl.below b
  replace kl := kl.below b
  replace xm := xm.below b
  replace km := km.below b
  replace xn := xn.below b
  replace kn := kn.below b
  replace xi := xi.below b
  replace ki := ki.below b
  replace xj := xj.below b
  replace kj := kj.below b
  clear b
  obtain ⟨aok, qk, capk, rfl, xk⟩ := j_.slice
  clear j_
  obtain ⟨b, kk⟩ := pro1 w32 (.slice aok qk capk)
  obtain ⟨Rk, hRk⟩ : ∃ R, R = w32.heap.size := ⟨_, rfl⟩
  have cc0 := (kx.below b).cell
  have cc1 := (ky.below b).cell
  have cc2 := (kz.below b).cell
  have cc3 := (ks.below b).cell
  have cc4 := (kt.below b).cell
  have cc5 := (ku.below b).cell
  have cc6 := (kv.below b).cell
  have cc7 := (kw.below b).cell
  have cc8 := (kp.below b).cell
  have cc9 := (kq.below b).cell
  have cc10 := (kl.below b).cell
  have cc11 := (km.below b).cell
  have cc12 := (kn.below b).cell
  have cc13 := (ki.below b).cell
  have cc14 := (kj.below b).cell
  have cc15 := kk.cell
  go_wp2_with fail
  obtain ⟨w33, hw⟩ : ∃ w_ : World, w_ = (w32.alloc (.cells #[.slice aok qk capk] 25)) := ⟨_, rfl⟩
  have hz : (w32.alloc (.cells #[.slice aok qk capk] 25)).heap.size = w32.heap.size + 1 := by simp
  rw [← hw] at b kk hz ⊢
  rw [← hRk] at kk hz ⊢
  clear hw hRk cc0 cc1 cc2 cc3 cc4 cc5 cc6 cc7 cc8 cc9 cc10 cc11 cc12 cc13 cc14 cc15
  replace hB := nextB hB b
  replace ia := ia.below b
  replace ib := ib.below b
  replace ic := ic.below b
  replace xx := xx.below b
  replace xy := xy.below b
  replace kx := kx.below b
  replace ky := ky.below b
  replace xz := xz.below b
  replace kz := kz.below b
  replace xs := xs.below b
  replace ks := ks.below b
  replace xt := xt.below b
  replace kt := kt.below b
  replace xu := xu.below b
  replace ku := ku.below b
  replace xv := xv.below b
  replace kv := kv.below b
  replace xw := xw.below b
  replace kw := kw.below b
  replace xp := xp.below b
  replace kp := kp.below b
  replace xq := xq.below b
  replace kq := kq.below b
  replace xl := xl.below b
  replace kl := kl.below b
  replace xm := xm.below b
  replace km := km.below b
  replace xn := xn.below b
  replace kn := kn.below b
  replace xi := xi.below b
  replace ki := ki.below b
  replace xj := xj.below b
  replace kj := kj.below b
  replace xk := xk.below b
  clear b
  have cc0 := kx.cell
  have cc1 := ky.cell
  have cc2 := kz.cell
  have cc3 := ks.cell
  have cc4 := kt.cell
  have cc5 := ku.cell
  have cc6 := kv.cell
  have cc7 := kw.cell
  have cc8 := kp.cell
  have cc9 := kq.cell
  have cc10 := kl.cell
  have cc11 := km.cell
  have cc12 := kn.cell
  have cc13 := ki.cell
  have cc14 := kj.cell
  have cc15 := kk.cell
  go_wp2_with fail
  clear cc0 cc1 cc2 cc3 cc4 cc5 cc6 cc7 cc8 cc9 cc10 cc11 cc12 cc13 cc14 cc15
  obtain ⟨w34, hw⟩ : ∃ w_ : World, w_ = w33.alloc (.cells #[.int .i64 0, .int .i64 0, .int .i64 0, .int .i64 0, .int .i64 0, .int .i64 0, .int .i64 0, .int .i64 0, .int .i64 0, .int .i64 0, .int .i64 0, .int .i64 0, .int .i64 0] 26) := ⟨_, rfl⟩
  have b := below_alloc w33 (.cells #[.int .i64 0, .int .i64 0, .int .i64 0, .int .i64 0, .int .i64 0, .int .i64 0, .int .i64 0, .int .i64 0, .int .i64 0, .int .i64 0, .int .i64 0, .int .i64 0, .int .i64 0] 26)
  have HCE := Lib.hid (fun t (ht : t < 13) => errs_cell w33 13 ht)
  rw [show (Array.replicate 13 (Value.int .i64 0)) = #[.int .i64 0, .int .i64 0, .int .i64 0, .int .i64 0, .int .i64 0, .int .i64 0, .int .i64 0, .int .i64 0, .int .i64 0, .int .i64 0, .int .i64 0, .int .i64 0, .int .i64 0] from rfl] at HCE
  rw [← hw] at b HCE ⊢
  rw [hz] at HCE
  clear hw hz
  replace hB := nextB hB b
  replace ia := ia.below b
  replace ib := ib.below b
  replace ic := ic.below b
  replace xx := xx.below b
  replace xy := xy.below b
  replace kx := kx.below b
  replace ky := ky.below b
  replace xz := xz.below b
  replace kz := kz.below b
  replace xs := xs.below b
  replace ks := ks.below b
  replace xt := xt.below b
  replace kt := kt.below b
  replace xu := xu.below b
  replace ku := ku.below b
  replace xv := xv.below b
  replace kv := kv.below b
  replace xw := xw.below b
  replace kw := kw.below b
  replace xp := xp.below b
  replace kp := kp.below b
  replace xq := xq.below b
  replace kq := kq.below b
  replace xl := xl.below b
  replace kl := kl.below b
  replace xm := xm.below b
  replace km := km.below b
  replace xn := xn.below b
  replace kn := kn.below b
  replace xi := xi.below b
  replace ki := ki.below b
  replace xj := xj.below b
  replace kj := kj.below b
  replace xk := xk.below b
  replace kk := kk.below b
  clear b
  go_loop [40, 150] (fun _ i => ∃ t : Nat, t ≤ 13 ∧ i = .int .i64 t) (fun _ i => 13 - (intOf i).toNat)
  case atStart => exact ⟨0, Nat.zero_le _, rfl⟩
  case round =>
    obtain ⟨t, ht, rfl⟩ := hrel
    by_cases hlt : t < 13
    · have hce := HCE.out t hlt
      go_wp2
      go_round
      case rel => exact ⟨t + 1, by omega, by go_num⟩
      case measure => simp [intOf]; omega
    · obtain rfl : t = 13 := by omega
      clear HCE hlt ht
      have cc0 := kx.cell
      have cc1 := ky.cell
      have cc2 := kz.cell
      have cc3 := ks.cell
      have cc4 := kt.cell
      have cc5 := ku.cell
      have cc6 := kv.cell
      have cc7 := kw.cell
      have cc8 := kp.cell
      have cc9 := kq.cell
      have cc10 := kl.cell
      have cc11 := km.cell
      have cc12 := kn.cell
      have cc13 := ki.cell
      have cc14 := kj.cell
      have cc15 := kk.cell
      go_wp2_with fail
      clear cc0 cc1 cc2 cc3 cc4 cc5 cc6 cc7 cc8 cc9 cc10 cc11 cc12 cc13 cc14 cc15
      refine (Cmp_any ⟨_, rfl, xs⟩ ⟨_, rfl, xt⟩).mono ?_
      rintro e w35 ⟨rfl, b⟩
      rw [show cmpI (m + n) (n + m) = 0 by rw [Nat.add_comm n m]; exact cmpI_self _]
      replace hB := nextB hB b
      replace ia := ia.below b
      replace ib := ib.below b
      replace ic := ic.below b
      replace xx := xx.below b
      replace xy := xy.below b
      replace kx := kx.below b
      replace ky := ky.below b
      replace xz := xz.below b
      replace kz := kz.below b
      replace xs := xs.below b
      replace ks := ks.below b
      replace xt := xt.below b
      replace kt := kt.below b
      replace xu := xu.below b
      replace ku := ku.below b
      replace xv := xv.below b
      replace kv := kv.below b
      replace xw := xw.below b
      replace kw := kw.below b
      replace xp := xp.below b
      replace kp := kp.below b
      replace xq := xq.below b
      replace kq := kq.below b
      replace xl := xl.below b
      replace kl := kl.below b
      replace xm := xm.below b
      replace km := km.below b
      replace xn := xn.below b
      replace kn := kn.below b
      replace xi := xi.below b
      replace ki := ki.below b
      replace xj := xj.below b
      replace kj := kj.below b
      replace xk := xk.below b
      replace kk := kk.below b
      clear b
      have cc0 := kx.cell
      have cc1 := ky.cell
      have cc2 := kz.cell
      have cc3 := ks.cell
      have cc4 := kt.cell
      have cc5 := ku.cell
      have cc6 := kv.cell
      have cc7 := kw.cell
      have cc8 := kp.cell
      have cc9 := kq.cell
      have cc10 := kl.cell
      have cc11 := km.cell
      have cc12 := kn.cell
      have cc13 := ki.cell
      have cc14 := kj.cell
      have cc15 := kk.cell
      go_wp2_with fail
      clear cc0 cc1 cc2 cc3 cc4 cc5 cc6 cc7 cc8 cc9 cc10 cc11 cc12 cc13 cc14 cc15
      refine (Cmp_any ⟨_, rfl, xu⟩ ⟨_, rfl, xw⟩).mono ?_
      rintro e w36 ⟨rfl, b⟩
      rw [show cmpI (m + n + p) (m + (n + p)) = 0 by rw [Nat.add_assoc]; exact cmpI_self _]
      replace hB := nextB hB b
      replace ia := ia.below b
      replace ib := ib.below b
      replace ic := ic.below b
      replace xx := xx.below b
      replace xy := xy.below b
      replace kx := kx.below b
      replace ky := ky.below b
      replace xz := xz.below b
      replace kz := kz.below b
      replace xs := xs.below b
      replace ks := ks.below b
      replace xt := xt.below b
      replace kt := kt.below b
      replace xu := xu.below b
      replace ku := ku.below b
      replace xv := xv.below b
      replace kv := kv.below b
      replace xw := xw.below b
      replace kw := kw.below b
      replace xp := xp.below b
      replace kp := kp.below b
      replace xq := xq.below b
      replace kq := kq.below b
      replace xl := xl.below b
      replace kl := kl.below b
      replace xm := xm.below b
      replace km := km.below b
      replace xn := xn.below b
      replace kn := kn.below b
      replace xi := xi.below b
      replace ki := ki.below b
      replace xj := xj.below b
      replace kj := kj.below b
      replace xk := xk.below b
      replace kk := kk.below b
      clear b
      have cc0 := kx.cell
      have cc1 := ky.cell
      have cc2 := kz.cell
      have cc3 := ks.cell
      have cc4 := kt.cell
      have cc5 := ku.cell
      have cc6 := kv.cell
      have cc7 := kw.cell
      have cc8 := kp.cell
      have cc9 := kq.cell
      have cc10 := kl.cell
      have cc11 := km.cell
      have cc12 := kn.cell
      have cc13 := ki.cell
      have cc14 := kj.cell
      have cc15 := kk.cell
      go_wp2_with fail
      clear cc0 cc1 cc2 cc3 cc4 cc5 cc6 cc7 cc8 cc9 cc10 cc11 cc12 cc13 cc14 cc15
      refine (Cmp_any ⟨_, rfl, xp⟩ ⟨_, rfl, xq⟩).mono ?_
      rintro e w37 ⟨rfl, b⟩
      rw [show cmpI (m * n) (n * m) = 0 by rw [Nat.mul_comm n m]; exact cmpI_self _]
      replace hB := nextB hB b
      replace ia := ia.below b
      replace ib := ib.below b
      replace ic := ic.below b
      replace xx := xx.below b
      replace xy := xy.below b
      replace kx := kx.below b
      replace ky := ky.below b
      replace xz := xz.below b
      replace kz := kz.below b
      replace xs := xs.below b
      replace ks := ks.below b
      replace xt := xt.below b
      replace kt := kt.below b
      replace xu := xu.below b
      replace ku := ku.below b
      replace xv := xv.below b
      replace kv := kv.below b
      replace xw := xw.below b
      replace kw := kw.below b
      replace xp := xp.below b
      replace kp := kp.below b
      replace xq := xq.below b
      replace kq := kq.below b
      replace xl := xl.below b
      replace kl := kl.below b
      replace xm := xm.below b
      replace km := km.below b
      replace xn := xn.below b
      replace kn := kn.below b
      replace xi := xi.below b
      replace ki := ki.below b
      replace xj := xj.below b
      replace kj := kj.below b
      replace xk := xk.below b
      replace kk := kk.below b
      clear b
      have cc0 := kx.cell
      have cc1 := ky.cell
      have cc2 := kz.cell
      have cc3 := ks.cell
      have cc4 := kt.cell
      have cc5 := ku.cell
      have cc6 := kv.cell
      have cc7 := kw.cell
      have cc8 := kp.cell
      have cc9 := kq.cell
      have cc10 := kl.cell
      have cc11 := km.cell
      have cc12 := kn.cell
      have cc13 := ki.cell
      have cc14 := kj.cell
      have cc15 := kk.cell
      go_wp2_with fail
      clear cc0 cc1 cc2 cc3 cc4 cc5 cc6 cc7 cc8 cc9 cc10 cc11 cc12 cc13 cc14 cc15
      refine (Cmp_any ⟨_, rfl, xl⟩ ⟨_, rfl, xn⟩).mono ?_
      rintro e w38 ⟨rfl, b⟩
      rw [show cmpI (m * n * p) (m * (n * p)) = 0 by rw [Nat.mul_assoc]; exact cmpI_self _]
      replace hB := nextB hB b
      replace ia := ia.below b
      replace ib := ib.below b
      replace ic := ic.below b
      replace xx := xx.below b
      replace xy := xy.below b
      replace kx := kx.below b
      replace ky := ky.below b
      replace xz := xz.below b
      replace kz := kz.below b
      replace xs := xs.below b
      replace ks := ks.below b
      replace xt := xt.below b
      replace kt := kt.below b
      replace xu := xu.below b
      replace ku := ku.below b
      replace xv := xv.below b
      replace kv := kv.below b
      replace xw := xw.below b
      replace kw := kw.below b
      replace xp := xp.below b
      replace kp := kp.below b
      replace xq := xq.below b
      replace kq := kq.below b
      replace xl := xl.below b
      replace kl := kl.below b
      replace xm := xm.below b
      replace km := km.below b
      replace xn := xn.below b
      replace kn := kn.below b
      replace xi := xi.below b
      replace ki := ki.below b
      replace xj := xj.below b
      replace kj := kj.below b
      replace xk := xk.below b
      replace kk := kk.below b
      clear b
      have cc0 := kx.cell
      have cc1 := ky.cell
      have cc2 := kz.cell
      have cc3 := ks.cell
      have cc4 := kt.cell
      have cc5 := ku.cell
      have cc6 := kv.cell
      have cc7 := kw.cell
      have cc8 := kp.cell
      have cc9 := kq.cell
      have cc10 := kl.cell
      have cc11 := km.cell
      have cc12 := kn.cell
      have cc13 := ki.cell
      have cc14 := kj.cell
      have cc15 := kk.cell
      go_wp2_with fail
      clear cc0 cc1 cc2 cc3 cc4 cc5 cc6 cc7 cc8 cc9 cc10 cc11 cc12 cc13 cc14 cc15
      refine (Cmp_any ⟨_, rfl, xi⟩ ⟨_, rfl, xk⟩).mono ?_
      rintro e w39 ⟨rfl, b⟩
      rw [show cmpI ((m + n) * p) (m * p + n * p) = 0 by rw [Nat.add_mul]; exact cmpI_self _]
      replace hB := nextB hB b
      replace ia := ia.below b
      replace ib := ib.below b
      replace ic := ic.below b
      replace xx := xx.below b
      replace xy := xy.below b
      replace kx := kx.below b
      replace ky := ky.below b
      replace xz := xz.below b
      replace kz := kz.below b
      replace xs := xs.below b
      replace ks := ks.below b
      replace xt := xt.below b
      replace kt := kt.below b
      replace xu := xu.below b
      replace ku := ku.below b
      replace xv := xv.below b
      replace kv := kv.below b
      replace xw := xw.below b
      replace kw := kw.below b
      replace xp := xp.below b
      replace kp := kp.below b
      replace xq := xq.below b
      replace kq := kq.below b
      replace xl := xl.below b
      replace kl := kl.below b
      replace xm := xm.below b
      replace km := km.below b
      replace xn := xn.below b
      replace kn := kn.below b
      replace xi := xi.below b
      replace ki := ki.below b
      replace xj := xj.below b
      replace kj := kj.below b
      replace xk := xk.below b
      replace kk := kk.below b
      clear b
      have cc0 := kx.cell
      have cc1 := ky.cell
      have cc2 := kz.cell
      have cc3 := ks.cell
      have cc4 := kt.cell
      have cc5 := ku.cell
      have cc6 := kv.cell
      have cc7 := kw.cell
      have cc8 := kp.cell
      have cc9 := kq.cell
      have cc10 := kl.cell
      have cc11 := km.cell
      have cc12 := kn.cell
      have cc13 := ki.cell
      have cc14 := kj.cell
      have cc15 := kk.cell
      go_wp2_with fail
      clear cc0 cc1 cc2 cc3 cc4 cc5 cc6 cc7 cc8 cc9 cc10 cc11 cc12 cc13 cc14 cc15
      refine (awake_any _).mono ?_
      rintro e w40 ⟨rfl, b⟩
      replace hB := nextB hB b
      replace ia := ia.below b
      replace ib := ib.below b
      replace ic := ic.below b
      replace xx := xx.below b
      replace xy := xy.below b
      replace kx := kx.below b
      replace ky := ky.below b
      replace xz := xz.below b
      replace kz := kz.below b
      replace xs := xs.below b
      replace ks := ks.below b
      replace xt := xt.below b
      replace kt := kt.below b
      replace xu := xu.below b
      replace ku := ku.below b
      replace xv := xv.below b
      replace kv := kv.below b
      replace xw := xw.below b
      replace kw := kw.below b
      replace xp := xp.below b
      replace kp := kp.below b
      replace xq := xq.below b
      replace kq := kq.below b
      replace xl := xl.below b
      replace kl := kl.below b
      replace xm := xm.below b
      replace km := km.below b
      replace xn := xn.below b
      replace kn := kn.below b
      replace xi := xi.below b
      replace ki := ki.below b
      replace xj := xj.below b
      replace kj := kj.below b
      replace xk := xk.below b
      replace kk := kk.below b
      clear b
      go_wp2
      go_ret
      exact ⟨rfl, hB⟩

end Go.Proofs.Ytppbhjhbaknidaa

/-
  The walks of the laws NatBack, NatLcm. No condition.
-/
set_option linter.unusedVariables false
set_option linter.unusedSimpArgs false
namespace Go.Proofs.Ytppbhjhbaknidaa
open Go.RowKit

theorem blen_ne {n : Nat} (h : n ≠ 0) : ((blen n : Nat) : Int) ≠ 0 := by
  intro hc
  have h1 : blen n ≤ 0 := by omega
  have h2 := blen_le.1 h1
  unfold P2 at h2
  omega
theorem txt_1 : txt 1 = ⟨#[49]⟩ := by
  unfold txt decs; rw [if_neg (by omega), rdec_one (by omega) (by omega)]; rfl

structure LcmOk (c d g : Nat) : Prop where
  pos : 0 < g
  gl : g < P2 16384
  ql : c / g < P2 16384
  vl : d / g < P2 16384
  rl : c % g < P2 16384
  wl : d % g < P2 16384
  r0 : c % g = 0
  w0 : d % g = 0
  ml : c / g * d < P2 16384
  eq : g * (c / g * d) = c * d
  ll : g * (c / g * d) < P2 16384
  pl : c * d < P2 16384
  one : Nat.gcd (c / g) (d / g) = 1

theorem lcm_ok {c d : Nat} (hc : c < P2 (16 * 200)) (hd : d < P2 (16 * 200)) (hc0 : 0 < c) (hd0 : 0 < d) : LcmOk c d (Nat.gcd c d) := by
  have hp := lt_P2_mono (mul_lt_P2 hc hd) (show 16 * 200 + 16 * 200 ≤ 16384 by omega)
  have hc2 := lt_P2_mono hc (show 16 * 200 ≤ 16384 by omega)
  have hd2 := lt_P2_mono hd (show 16 * 200 ≤ 16384 by omega)
  have hg0 := Nat.gcd_pos_of_pos_left d hc0
  have e1 := Nat.gcd_dvd_left c d
  have e2 := Nat.gcd_dvd_right c d
  have one : Nat.gcd (c / Nat.gcd c d) (d / Nat.gcd c d) = 1 := by
    rw [Nat.gcd_div e1 e2, Nat.div_self hg0]
  have hgl := gcd_lt_P2 hc2 hd2
  generalize Nat.gcd c d = g at *
  have eq : g * (c / g * d) = c * d := by rw [← Nat.mul_assoc, Nat.mul_div_cancel' e1]
  have hm : c / g * d ≤ c * d := Nat.mul_le_mul_right _ (Nat.div_le_self _ _)
  exact ⟨hg0, hgl, Nat.lt_of_le_of_lt (Nat.div_le_self _ _) hc2, Nat.lt_of_le_of_lt (Nat.div_le_self _ _) hd2, Nat.lt_of_le_of_lt (Nat.mod_le _ _) hc2, Nat.lt_of_le_of_lt (Nat.mod_le _ _) hd2,
    Nat.mod_eq_zero_of_dvd e1, Nat.mod_eq_zero_of_dvd e2, Nat.lt_of_le_of_lt hm hp, eq, by rw [eq]; exact hp, hp, one⟩

set_option maxHeartbeats 4000000 in
set_option maxRecDepth 100000 in
theorem NatBack_walk (va : Value) (vb : Value) (w : World) (ia : In16 w va) (ib : In16 w vb) :
    Calls Try.prog 10 #[va, vb] w (RetB w true) := by
  have hB := Below.refl w.heap.size w
  go_enter Try.func10, Try.ntmps10
  go_wp2_with fail
  refine (raw_any ia 500 (by omega)).mono ?_
  rintro e w1 ⟨c, hc, rc, rfl, icr, b⟩
  replace hB := nextB hB b
  replace ia := ia.below b
  replace ib := ib.below b
  clear b
  have Hc := Lib.hid hc
  clear hc
  go_wp2_with fail
  refine (raw_any ib 500 (by omega)).mono ?_
  rintro e w2 ⟨d, hd, rd, rfl, idr, b⟩
  replace hB := nextB hB b
  replace ia := ia.below b
  replace ib := ib.below b
  replace icr := icr.below b
  clear b
  have Hd := Lib.hid hd
  clear hd
  have Hc := Lib.hid (lt_P2_mono Hc.out (show 16 * 500 ≤ 16384 by omega))
  have Hd := Lib.hid (lt_P2_mono Hd.out (show 16 * 500 ≤ 16384 by omega))
  go_wp2_with fail
  refine (two_any icr idr Hc.out Hd.out).mono ?_
  rintro e w3 ⟨u1, u2, rfl, j1, j2, b⟩
  obtain ⟨aox, qx, capx, rfl, xx⟩ := j1.slice
  clear j1
  obtain ⟨aoy, qy, capy, rfl, xy⟩ := j2.slice
  clear j2
  replace hB := nextB hB b
  replace ia := ia.below b
  replace ib := ib.below b
  replace icr := icr.below b
  replace idr := idr.below b
  clear b
  obtain ⟨b, kx, ky⟩ := pro2 w3 (.slice aox qx capx) (.slice aoy qy capy)
  obtain ⟨Rx, hRx⟩ : ∃ R, R = w3.heap.size := ⟨_, rfl⟩
  have cc0 := kx.cell
  have cc1 := ky.cell
  go_wp2_with fail
  obtain ⟨w4, hw⟩ : ∃ w_ : World, w_ = ((w3.alloc (.cells #[.slice aox qx capx] 25)).alloc (.cells #[.slice aoy qy capy] 25)) := ⟨_, rfl⟩
  rw [← hw] at b kx ky ⊢
  rw [← hRx] at kx ky ⊢
  clear hw hRx cc0 cc1
  replace hB := nextB hB b
  replace ia := ia.below b
  replace ib := ib.below b
  replace icr := icr.below b
  replace idr := idr.below b
  replace xx := xx.below b
  replace xy := xy.below b
  clear b
  clear icr idr
  by_cases hd0 : d = 0
  · subst hd0
    refine (DivMod_zero ⟨_, rfl, xx⟩ ⟨_, rfl, xy⟩).mono ?_
    rintro e w5 ⟨u1, u2, rfl, j1, j2, b⟩
    replace hB := nextB hB b
    replace ia := ia.below b
    replace ib := ib.below b
    replace xx := xx.below b
    replace xy := xy.below b
    replace kx := kx.below b
    replace ky := ky.below b
    clear b
    obtain ⟨aoq, qq, capq, rfl, xq⟩ := j1.slice
    clear j1
    obtain ⟨aor, qr, capr, rfl, xr⟩ := j2.slice
    clear j2
    obtain ⟨b, kq, kr⟩ := pro2 w5 (.slice aoq qq capq) (.slice aor qr capr)
    obtain ⟨Rq, hRq⟩ : ∃ R, R = w5.heap.size := ⟨_, rfl⟩
    have cc0 := (kx.below b).cell
    have cc1 := (ky.below b).cell
    have cc2 := kq.cell
    have cc3 := kr.cell
    go_wp2_with fail
    obtain ⟨w6, hw⟩ : ∃ w_ : World, w_ = ((w5.alloc (.cells #[.slice aoq qq capq] 25)).alloc (.cells #[.slice aor qr capr] 25)) := ⟨_, rfl⟩
    rw [← hw] at b kq kr ⊢
    rw [← hRq] at kq kr ⊢
    clear hw hRq cc0 cc1 cc2 cc3
    replace hB := nextB hB b
    replace ia := ia.below b
    replace ib := ib.below b
    replace xx := xx.below b
    replace xy := xy.below b
    replace kx := kx.below b
    replace ky := ky.below b
    replace xq := xq.below b
    replace xr := xr.below b
    clear b
    refine (String_any ⟨_, rfl, xx⟩ 16384 (by omega) Hc.out).mono ?_
    rintro e w7 ⟨rfl, b⟩
    replace hB := nextB hB b
    replace ia := ia.below b
    replace ib := ib.below b
    replace xx := xx.below b
    replace xy := xy.below b
    replace kx := kx.below b
    replace ky := ky.below b
    replace xq := xq.below b
    replace xr := xr.below b
    replace kq := kq.below b
    replace kr := kr.below b
    clear b
    have cc0 := kx.cell
    have cc1 := ky.cell
    have cc2 := kq.cell
    have cc3 := kr.cell
    go_wp2_with fail
    clear cc0 cc1 cc2 cc3
    refine (parse_any (txt c) _ (txt_sz Hc.out)).mono ?_
    rintro e w8 ⟨v_, rfl, j_, b⟩
    rw [parseE_txt Hc.out, numOf_txt, if_pos rfl] at j_
    rw [parseE_txt Hc.out]
    replace hB := nextB hB b
    replace ia := ia.below b
    replace ib := ib.below b
    replace xx := xx.below b
    replace xy := xy.below b
    replace kx := kx.below b
    replace ky := ky.below b
    replace xq := xq.below b
    replace xr := xr.below b
    replace kq := kq.below b
    replace kr := kr.below b
    clear b
    obtain ⟨aop, qp, capp, rfl, xp⟩ := j_.slice
    clear j_
    obtain ⟨b, kp⟩ := pro1 w8 (.slice aop qp capp)
    obtain ⟨Rp, hRp⟩ : ∃ R, R = w8.heap.size := ⟨_, rfl⟩
    have cc0 := (kx.below b).cell
    have cc1 := (ky.below b).cell
    have cc2 := (kq.below b).cell
    have cc3 := (kr.below b).cell
    have cc4 := kp.cell
    go_wp2_with fail
    obtain ⟨w9, hw⟩ : ∃ w_ : World, w_ = (w8.alloc (.cells #[.slice aop qp capp] 25)) := ⟨_, rfl⟩
    rw [← hw] at b kp ⊢
    rw [← hRp] at kp ⊢
    clear hw hRp cc0 cc1 cc2 cc3 cc4
    replace hB := nextB hB b
    replace ia := ia.below b
    replace ib := ib.below b
    replace xx := xx.below b
    replace xy := xy.below b
    replace kx := kx.below b
    replace ky := ky.below b
    replace xq := xq.below b
    replace xr := xr.below b
    replace kq := kq.below b
    replace kr := kr.below b
    replace xp := xp.below b
    clear b
    refine (Cmp_any ⟨_, rfl, xp⟩ ⟨_, rfl, xx⟩).mono ?_
    rintro e w10 ⟨rfl, b⟩
    rw [cmpI_self]
    replace hB := nextB hB b
    replace ia := ia.below b
    replace ib := ib.below b
    replace xx := xx.below b
    replace xy := xy.below b
    replace kx := kx.below b
    replace ky := ky.below b
    replace xq := xq.below b
    replace xr := xr.below b
    replace kq := kq.below b
    replace kr := kr.below b
    replace xp := xp.below b
    replace kp := kp.below b
    clear b
    have cc0 := kx.cell
    have cc1 := ky.cell
    have cc2 := kq.cell
    have cc3 := kr.cell
    have cc4 := kp.cell
    go_wp2_with fail
    clear cc0 cc1 cc2 cc3 cc4
    refine (BitLen_any ⟨_, rfl, xy⟩ 16384 (by omega) Hd.out).mono ?_
    rintro e w11 ⟨rfl, b⟩
    rw [show blen 0 = 0 from rfl]
    replace hB := nextB hB b
    replace ia := ia.below b
    replace ib := ib.below b
    replace xx := xx.below b
    replace xy := xy.below b
    replace kx := kx.below b
    replace ky := ky.below b
    replace xq := xq.below b
    replace xr := xr.below b
    replace kq := kq.below b
    replace kr := kr.below b
    replace xp := xp.below b
    replace kp := kp.below b
    clear b
    have cc0 := kx.cell
    have cc1 := ky.cell
    have cc2 := kq.cell
    have cc3 := kr.cell
    have cc4 := kp.cell
    go_wp2_with fail
    clear cc0 cc1 cc2 cc3 cc4
    refine (awake_any _).mono ?_
    rintro e w12 ⟨rfl, b⟩
    replace hB := nextB hB b
    replace ia := ia.below b
    replace ib := ib.below b
    replace xx := xx.below b
    replace xy := xy.below b
    replace kx := kx.below b
    replace ky := ky.below b
    replace xq := xq.below b
    replace xr := xr.below b
    replace kq := kq.below b
    replace kr := kr.below b
    replace xp := xp.below b
    replace kp := kp.below b
    clear b
    go_wp2
    go_ret
    exact ⟨rfl, hB⟩
  · have hd1 : 0 < d := Nat.pos_of_ne_zero hd0
    have hbl : ((blen d : Nat) : Int) ≠ 0 := blen_ne hd0
    have HBL := Lib.hid hbl
    clear hd0 hbl
    have HLT := Lib.hid (Nat.mod_lt c hd1)
    have HEQ := Lib.hid (Nat.div_add_mod' c d)
    have HQ := Lib.hid (Nat.lt_of_le_of_lt (Nat.div_le_self c d) Hc.out)
    have HR := Lib.hid (Nat.lt_of_le_of_lt (Nat.mod_le c d) Hc.out)
    have HQD := Lib.hid (Nat.lt_of_le_of_lt (Nat.div_mul_le_self c d) Hc.out)
    refine (DivMod_any ⟨_, rfl, xx⟩ ⟨_, rfl, xy⟩ hd1 16384 (by omega) Hc.out).mono ?_
    rintro e w5 ⟨u1, u2, rfl, j1, j2, b⟩
    replace hB := nextB hB b
    replace ia := ia.below b
    replace ib := ib.below b
    replace xx := xx.below b
    replace xy := xy.below b
    replace kx := kx.below b
    replace ky := ky.below b
    clear b
    obtain ⟨aoq, qq, capq, rfl, xq⟩ := j1.slice
    clear j1
    obtain ⟨aor, qr, capr, rfl, xr⟩ := j2.slice
    clear j2
    obtain ⟨b, kq, kr⟩ := pro2 w5 (.slice aoq qq capq) (.slice aor qr capr)
    obtain ⟨Rq, hRq⟩ : ∃ R, R = w5.heap.size := ⟨_, rfl⟩
    have cc0 := (kx.below b).cell
    have cc1 := (ky.below b).cell
    have cc2 := kq.cell
    have cc3 := kr.cell
    go_wp2_with fail
    obtain ⟨w6, hw⟩ : ∃ w_ : World, w_ = ((w5.alloc (.cells #[.slice aoq qq capq] 25)).alloc (.cells #[.slice aor qr capr] 25)) := ⟨_, rfl⟩
    rw [← hw] at b kq kr ⊢
    rw [← hRq] at kq kr ⊢
    clear hw hRq cc0 cc1 cc2 cc3
    replace hB := nextB hB b
    replace ia := ia.below b
    replace ib := ib.below b
    replace xx := xx.below b
    replace xy := xy.below b
    replace kx := kx.below b
    replace ky := ky.below b
    replace xq := xq.below b
    replace xr := xr.below b
    clear b
    refine (String_any ⟨_, rfl, xx⟩ 16384 (by omega) Hc.out).mono ?_
    rintro e w7 ⟨rfl, b⟩
    replace hB := nextB hB b
    replace ia := ia.below b
    replace ib := ib.below b
    replace xx := xx.below b
    replace xy := xy.below b
    replace kx := kx.below b
    replace ky := ky.below b
    replace xq := xq.below b
    replace xr := xr.below b
    replace kq := kq.below b
    replace kr := kr.below b
    clear b
    have cc0 := kx.cell
    have cc1 := ky.cell
    have cc2 := kq.cell
    have cc3 := kr.cell
    go_wp2_with fail
    clear cc0 cc1 cc2 cc3
    refine (parse_any (txt c) _ (txt_sz Hc.out)).mono ?_
    rintro e w8 ⟨v_, rfl, j_, b⟩
    rw [parseE_txt Hc.out, numOf_txt, if_pos rfl] at j_
    rw [parseE_txt Hc.out]
    replace hB := nextB hB b
    replace ia := ia.below b
    replace ib := ib.below b
    replace xx := xx.below b
    replace xy := xy.below b
    replace kx := kx.below b
    replace ky := ky.below b
    replace xq := xq.below b
    replace xr := xr.below b
    replace kq := kq.below b
    replace kr := kr.below b
    clear b
    obtain ⟨aop, qp, capp, rfl, xp⟩ := j_.slice
    clear j_
    obtain ⟨b, kp⟩ := pro1 w8 (.slice aop qp capp)
    obtain ⟨Rp, hRp⟩ : ∃ R, R = w8.heap.size := ⟨_, rfl⟩
    have cc0 := (kx.below b).cell
    have cc1 := (ky.below b).cell
    have cc2 := (kq.below b).cell
    have cc3 := (kr.below b).cell
    have cc4 := kp.cell
    go_wp2_with fail
    obtain ⟨w9, hw⟩ : ∃ w_ : World, w_ = (w8.alloc (.cells #[.slice aop qp capp] 25)) := ⟨_, rfl⟩
    rw [← hw] at b kp ⊢
    rw [← hRp] at kp ⊢
    clear hw hRp cc0 cc1 cc2 cc3 cc4
    replace hB := nextB hB b
    replace ia := ia.below b
    replace ib := ib.below b
    replace xx := xx.below b
    replace xy := xy.below b
    replace kx := kx.below b
    replace ky := ky.below b
    replace xq := xq.below b
    replace xr := xr.below b
    replace kq := kq.below b
    replace kr := kr.below b
    replace xp := xp.below b
    clear b
    refine (Cmp_any ⟨_, rfl, xp⟩ ⟨_, rfl, xx⟩).mono ?_
    rintro e w10 ⟨rfl, b⟩
    rw [cmpI_self]
    replace hB := nextB hB b
    replace ia := ia.below b
    replace ib := ib.below b
    replace xx := xx.below b
    replace xy := xy.below b
    replace kx := kx.below b
    replace ky := ky.below b
    replace xq := xq.below b
    replace xr := xr.below b
    replace kq := kq.below b
    replace kr := kr.below b
    replace xp := xp.below b
    replace kp := kp.below b
    clear b
    have cc0 := kx.cell
    have cc1 := ky.cell
    have cc2 := kq.cell
    have cc3 := kr.cell
    have cc4 := kp.cell
    go_wp2_with fail
    clear cc0 cc1 cc2 cc3 cc4
    refine (BitLen_any ⟨_, rfl, xy⟩ 16384 (by omega) Hd.out).mono ?_
    rintro e w11 ⟨rfl, b⟩
    have hbb : (((blen d : Nat) : Int) == 0) = false := by rw [beq_eq_false_iff_ne]; exact HBL.out
    replace hB := nextB hB b
    replace ia := ia.below b
    replace ib := ib.below b
    replace xx := xx.below b
    replace xy := xy.below b
    replace kx := kx.below b
    replace ky := ky.below b
    replace xq := xq.below b
    replace xr := xr.below b
    replace kq := kq.below b
    replace kr := kr.below b
    replace xp := xp.below b
    replace kp := kp.below b
    clear b
    have Fm : Hid (fitE (c / d * d) = 0) := Lib.hid (fit_ok (HQD.out))
    have Bm : Hid (c / d * d < P2 16384) := Lib.hid (HQD.out)
    have cc0 := kx.cell
    have cc1 := ky.cell
    have cc2 := kq.cell
    have cc3 := kr.cell
    have cc4 := kp.cell
    go_wp2_with fail
    clear cc0 cc1 cc2 cc3 cc4
    refine (Mul_any ⟨_, rfl, xq⟩ ⟨_, rfl, xy⟩ 16384 (by omega) HQ.out Hd.out).mono ?_
    rintro e w12 ⟨v_, rfl, j_, b⟩
    rw [Fm.out, if_pos rfl] at j_
    rw [Fm.out]
    replace hB := nextB hB b
    replace ia := ia.below b
    replace ib := ib.below b
    replace xx := xx.below b
    replace xy := xy.below b
    replace kx := kx.below b
    replace ky := ky.below b
    replace xq := xq.below b
    replace xr := xr.below b
    replace kq := kq.below b
    replace kr := kr.below b
    replace xp := xp.below b
    replace kp := kp.below b
    clear b
    obtain ⟨aom, qm, capm, rfl, xm⟩ := j_.slice
    clear j_
    obtain ⟨b, km⟩ := pro1 w12 (.slice aom qm capm)
    obtain ⟨Rm, hRm⟩ : ∃ R, R = w12.heap.size := ⟨_, rfl⟩
    have cc0 := (kx.below b).cell
    have cc1 := (ky.below b).cell
    have cc2 := (kq.below b).cell
    have cc3 := (kr.below b).cell
    have cc4 := (kp.below b).cell
    have cc5 := km.cell
    go_wp2_with fail
    obtain ⟨w13, hw⟩ : ∃ w_ : World, w_ = (w12.alloc (.cells #[.slice aom qm capm] 25)) := ⟨_, rfl⟩
    rw [← hw] at b km ⊢
    rw [← hRm] at km ⊢
    clear hw hRm cc0 cc1 cc2 cc3 cc4 cc5
    replace hB := nextB hB b
    replace ia := ia.below b
    replace ib := ib.below b
    replace xx := xx.below b
    replace xy := xy.below b
    replace kx := kx.below b
    replace ky := ky.below b
    replace xq := xq.below b
    replace xr := xr.below b
    replace kq := kq.below b
    replace kr := kr.below b
    replace xp := xp.below b
    replace kp := kp.below b
    replace xm := xm.below b
    clear b
    have Fs : Hid (fitE (c / d * d + c % d) = 0) := Lib.hid (fit_ok (by rw [HEQ.out]; exact Hc.out))
    have Bs : Hid (c / d * d + c % d < P2 16384) := Lib.hid (by rw [HEQ.out]; exact Hc.out)
    refine (Add_any ⟨_, rfl, xm⟩ ⟨_, rfl, xr⟩ 16384 (by omega) Bm.out HR.out).mono ?_
    rintro e w14 ⟨v_, rfl, j_, b⟩
    rw [Fs.out, if_pos rfl] at j_
    rw [Fs.out]
    replace hB := nextB hB b
    replace ia := ia.below b
    replace ib := ib.below b
    replace xx := xx.below b
    replace xy := xy.below b
    replace kx := kx.below b
    replace ky := ky.below b
    replace xq := xq.below b
    replace xr := xr.below b
    replace kq := kq.below b
    replace kr := kr.below b
    replace xp := xp.below b
    replace kp := kp.below b
    replace xm := xm.below b
    replace km := km.below b
    clear b
    obtain ⟨aos, qs, caps, rfl, xs⟩ := j_.slice
    clear j_
    obtain ⟨b, ks⟩ := pro1 w14 (.slice aos qs caps)
    obtain ⟨Rs, hRs⟩ : ∃ R, R = w14.heap.size := ⟨_, rfl⟩
    have cc0 := (kx.below b).cell
    have cc1 := (ky.below b).cell
    have cc2 := (kq.below b).cell
    have cc3 := (kr.below b).cell
    have cc4 := (kp.below b).cell
    have cc5 := (km.below b).cell
    have cc6 := ks.cell
    go_wp2_with fail
    obtain ⟨w15, hw⟩ : ∃ w_ : World, w_ = (w14.alloc (.cells #[.slice aos qs caps] 25)) := ⟨_, rfl⟩
    rw [← hw] at b ks ⊢
    rw [← hRs] at ks ⊢
    clear hw hRs cc0 cc1 cc2 cc3 cc4 cc5 cc6
    replace hB := nextB hB b
    replace ia := ia.below b
    replace ib := ib.below b
    replace xx := xx.below b
    replace xy := xy.below b
    replace kx := kx.below b
    replace ky := ky.below b
    replace xq := xq.below b
    replace xr := xr.below b
    replace kq := kq.below b
    replace kr := kr.below b
    replace xp := xp.below b
    replace kp := kp.below b
    replace xm := xm.below b
    replace km := km.below b
    replace xs := xs.below b
    clear b
    refine (Cmp_any ⟨_, rfl, xs⟩ ⟨_, rfl, xx⟩).mono ?_
    rintro e w16 ⟨rfl, b⟩
    rw [HEQ.out, cmpI_self]
    replace hB := nextB hB b
    replace ia := ia.below b
    replace ib := ib.below b
    replace xx := xx.below b
    replace xy := xy.below b
    replace kx := kx.below b
    replace ky := ky.below b
    replace xq := xq.below b
    replace xr := xr.below b
    replace kq := kq.below b
    replace kr := kr.below b
    replace xp := xp.below b
    replace kp := kp.below b
    replace xm := xm.below b
    replace km := km.below b
    replace xs := xs.below b
    replace ks := ks.below b
    clear b
    have cc0 := kx.cell
    have cc1 := ky.cell
    have cc2 := kq.cell
    have cc3 := kr.cell
    have cc4 := kp.cell
    have cc5 := km.cell
    have cc6 := ks.cell
    go_wp2_with fail
    clear cc0 cc1 cc2 cc3 cc4 cc5 cc6
    refine (Cmp_any ⟨_, rfl, xr⟩ ⟨_, rfl, xy⟩).mono ?_
    rintro e w17 ⟨rfl, b⟩
    rw [cmpI_lt HLT.out]
    replace hB := nextB hB b
    replace ia := ia.below b
    replace ib := ib.below b
    replace xx := xx.below b
    replace xy := xy.below b
    replace kx := kx.below b
    replace ky := ky.below b
    replace xq := xq.below b
    replace xr := xr.below b
    replace kq := kq.below b
    replace kr := kr.below b
    replace xp := xp.below b
    replace kp := kp.below b
    replace xm := xm.below b
    replace km := km.below b
    replace xs := xs.below b
    replace ks := ks.below b
    clear b
    have cc0 := kx.cell
    have cc1 := ky.cell
    have cc2 := kq.cell
    have cc3 := kr.cell
    have cc4 := kp.cell
    have cc5 := km.cell
    have cc6 := ks.cell
    go_wp2_with fail
    clear cc0 cc1 cc2 cc3 cc4 cc5 cc6
    refine (awake_any _).mono ?_
    rintro e w18 ⟨rfl, b⟩
    replace hB := nextB hB b
    replace ia := ia.below b
    replace ib := ib.below b
    replace xx := xx.below b
    replace xy := xy.below b
    replace kx := kx.below b
    replace ky := ky.below b
    replace xq := xq.below b
    replace xr := xr.below b
    replace kq := kq.below b
    replace kr := kr.below b
    replace xp := xp.below b
    replace kp := kp.below b
    replace xm := xm.below b
    replace km := km.below b
    replace xs := xs.below b
    replace ks := ks.below b
    clear b
    go_wp2
    go_ret
    exact ⟨rfl, hB⟩

set_option maxHeartbeats 4000000 in
set_option maxRecDepth 100000 in
theorem NatLcm_walk (va : Value) (vb : Value) (w : World) (ia : In16 w va) (ib : In16 w vb) :
    Calls Try.prog 11 #[va, vb] w (RetB w true) := by
  have hB := Below.refl w.heap.size w
  go_enter Try.func11, Try.ntmps11
  go_wp2_with fail
  refine (raw_any ia 200 (by omega)).mono ?_
  rintro e w1 ⟨c, hc, rc, rfl, icr, b⟩
  replace hB := nextB hB b
  replace ia := ia.below b
  replace ib := ib.below b
  clear b
  have Hc := Lib.hid hc
  clear hc
  go_wp2_with fail
  refine (raw_any ib 200 (by omega)).mono ?_
  rintro e w2 ⟨d, hd, rd, rfl, idr, b⟩
  replace hB := nextB hB b
  replace ia := ia.below b
  replace ib := ib.below b
  replace icr := icr.below b
  clear b
  have Hd := Lib.hid hd
  clear hd
  have Kc := Hc
  have Kd := Hd
  have Hc := Lib.hid (lt_P2_mono Hc.out (show 16 * 200 ≤ 16384 by omega))
  have Hd := Lib.hid (lt_P2_mono Hd.out (show 16 * 200 ≤ 16384 by omega))
  go_wp2_with fail
  refine (two_any icr idr Hc.out Hd.out).mono ?_
  rintro e w3 ⟨u1, u2, rfl, j1, j2, b⟩
  obtain ⟨aox, qx, capx, rfl, xx⟩ := j1.slice
  clear j1
  obtain ⟨aoy, qy, capy, rfl, xy⟩ := j2.slice
  clear j2
  replace hB := nextB hB b
  replace ia := ia.below b
  replace ib := ib.below b
  replace icr := icr.below b
  replace idr := idr.below b
  clear b
  obtain ⟨b, kx, ky⟩ := pro2 w3 (.slice aox qx capx) (.slice aoy qy capy)
  obtain ⟨Rx, hRx⟩ : ∃ R, R = w3.heap.size := ⟨_, rfl⟩
  have cc0 := kx.cell
  have cc1 := ky.cell
  go_wp2_with fail
  obtain ⟨w4, hw⟩ : ∃ w_ : World, w_ = ((w3.alloc (.cells #[.slice aox qx capx] 25)).alloc (.cells #[.slice aoy qy capy] 25)) := ⟨_, rfl⟩
  rw [← hw] at b kx ky ⊢
  rw [← hRx] at kx ky ⊢
  clear hw hRx cc0 cc1
  replace hB := nextB hB b
  replace ia := ia.below b
  replace ib := ib.below b
  replace icr := icr.below b
  replace idr := idr.below b
  replace xx := xx.below b
  replace xy := xy.below b
  clear b
  clear icr idr
  by_cases hc0 : c = 0
  · subst hc0
    refine (BitLen_any ⟨_, rfl, xx⟩ 16384 (by omega) Hc.out).mono ?_
    rintro e w5 ⟨rfl, b⟩
    rw [show blen 0 = 0 from rfl]
    replace hB := nextB hB b
    replace ia := ia.below b
    replace ib := ib.below b
    replace xx := xx.below b
    replace xy := xy.below b
    replace kx := kx.below b
    replace ky := ky.below b
    clear b
    have cc0 := kx.cell
    have cc1 := ky.cell
    go_wp2_with fail
    clear cc0 cc1
    refine (awake_any _).mono ?_
    rintro e w6 ⟨rfl, b⟩
    replace hB := nextB hB b
    replace ia := ia.below b
    replace ib := ib.below b
    replace xx := xx.below b
    replace xy := xy.below b
    replace kx := kx.below b
    replace ky := ky.below b
    clear b
    go_wp2
    go_ret
    exact ⟨rfl, hB⟩
  · have hbc : (((blen c : Nat) : Int) == 0) = false := by rw [beq_eq_false_iff_ne]; exact blen_ne hc0
    have HBC := Lib.hid hbc
    have hc1 : 0 < c := Nat.pos_of_ne_zero hc0
    clear hc0 hbc
    refine (BitLen_any ⟨_, rfl, xx⟩ 16384 (by omega) Hc.out).mono ?_
    rintro e w5 ⟨rfl, b⟩
    have hbc := HBC.out
    replace hB := nextB hB b
    replace ia := ia.below b
    replace ib := ib.below b
    replace xx := xx.below b
    replace xy := xy.below b
    replace kx := kx.below b
    replace ky := ky.below b
    clear b
    by_cases hd0 : d = 0
    · subst hd0
      have cc0 := kx.cell
      have cc1 := ky.cell
      go_wp2_with fail
      clear cc0 cc1
      refine (BitLen_any ⟨_, rfl, xy⟩ 16384 (by omega) Hd.out).mono ?_
      rintro e w6 ⟨rfl, b⟩
      rw [show blen 0 = 0 from rfl]
      replace hB := nextB hB b
      replace ia := ia.below b
      replace ib := ib.below b
      replace xx := xx.below b
      replace xy := xy.below b
      replace kx := kx.below b
      replace ky := ky.below b
      clear b
      have cc0 := kx.cell
      have cc1 := ky.cell
      go_wp2_with fail
      clear cc0 cc1
      refine (awake_any _).mono ?_
      rintro e w7 ⟨rfl, b⟩
      replace hB := nextB hB b
      replace ia := ia.below b
      replace ib := ib.below b
      replace xx := xx.below b
      replace xy := xy.below b
      replace kx := kx.below b
      replace ky := ky.below b
      clear b
      go_wp2
      go_ret
      exact ⟨rfl, hB⟩
    · have hbd : (((blen d : Nat) : Int) == 0) = false := by rw [beq_eq_false_iff_ne]; exact blen_ne hd0
      have hd1 : 0 < d := Nat.pos_of_ne_zero hd0
      clear hd0
      have HG := Lib.hid (lcm_ok Kc.out Kd.out hc1 hd1)
      have cc0 := kx.cell
      have cc1 := ky.cell
      go_wp2_with fail
      clear cc0 cc1
      refine (BitLen_any ⟨_, rfl, xy⟩ 16384 (by omega) Hd.out).mono ?_
      rintro e w6 ⟨rfl, b⟩
      replace hB := nextB hB b
      replace ia := ia.below b
      replace ib := ib.below b
      replace xx := xx.below b
      replace xy := xy.below b
      replace kx := kx.below b
      replace ky := ky.below b
      clear b
      have cc0 := kx.cell
      have cc1 := ky.cell
      go_wp2_with fail
      clear cc0 cc1
      refine (Gcd_any ⟨_, rfl, xx⟩ ⟨_, rfl, xy⟩ 16384 (by omega) Hc.out Hd.out).mono ?_
      rintro e w7 ⟨v_, rfl, j_, b⟩
      clear hbc hbd
      replace hB := nextB hB b
      replace ia := ia.below b
      replace ib := ib.below b
      replace xx := xx.below b
      replace xy := xy.below b
      replace kx := kx.below b
      replace ky := ky.below b
      clear b
      generalize hgg : Nat.gcd c d = g at *
      have HGG := Lib.hid hgg
      clear hgg
      have hg0 := HG.out.pos
      obtain ⟨aog, qg, capg, rfl, xg⟩ := j_.slice
      clear j_
      obtain ⟨b, kg⟩ := pro1 w7 (.slice aog qg capg)
      obtain ⟨Rg, hRg⟩ : ∃ R, R = w7.heap.size := ⟨_, rfl⟩
      have cc0 := (kx.below b).cell
      have cc1 := (ky.below b).cell
      have cc2 := kg.cell
      go_wp2_with fail
      obtain ⟨w8, hw⟩ : ∃ w_ : World, w_ = (w7.alloc (.cells #[.slice aog qg capg] 25)) := ⟨_, rfl⟩
      rw [← hw] at b kg ⊢
      rw [← hRg] at kg ⊢
      clear hw hRg cc0 cc1 cc2
      replace hB := nextB hB b
      replace ia := ia.below b
      replace ib := ib.below b
      replace xx := xx.below b
      replace xy := xy.below b
      replace kx := kx.below b
      replace ky := ky.below b
      replace xg := xg.below b
      clear b
      refine (DivMod_any ⟨_, rfl, xx⟩ ⟨_, rfl, xg⟩ hg0 16384 (by omega) Hc.out).mono ?_
      rintro e w9 ⟨u1, u2, rfl, j1, j2, b⟩
      replace hB := nextB hB b
      replace ia := ia.below b
      replace ib := ib.below b
      replace xx := xx.below b
      replace xy := xy.below b
      replace kx := kx.below b
      replace ky := ky.below b
      replace xg := xg.below b
      replace kg := kg.below b
      clear b
      obtain ⟨aoq, qq, capq, rfl, xq⟩ := j1.slice
      clear j1
      obtain ⟨aor, qr, capr, rfl, xr⟩ := j2.slice
      clear j2
      obtain ⟨b, kq, kr⟩ := pro2 w9 (.slice aoq qq capq) (.slice aor qr capr)
      obtain ⟨Rq, hRq⟩ : ∃ R, R = w9.heap.size := ⟨_, rfl⟩
      have cc0 := (kx.below b).cell
      have cc1 := (ky.below b).cell
      have cc2 := (kg.below b).cell
      have cc3 := kq.cell
      have cc4 := kr.cell
      go_wp2_with fail
      obtain ⟨w10, hw⟩ : ∃ w_ : World, w_ = ((w9.alloc (.cells #[.slice aoq qq capq] 25)).alloc (.cells #[.slice aor qr capr] 25)) := ⟨_, rfl⟩
      rw [← hw] at b kq kr ⊢
      rw [← hRq] at kq kr ⊢
      clear hw hRq cc0 cc1 cc2 cc3 cc4
      replace hB := nextB hB b
      replace ia := ia.below b
      replace ib := ib.below b
      replace xx := xx.below b
      replace xy := xy.below b
      replace kx := kx.below b
      replace ky := ky.below b
      replace xg := xg.below b
      replace kg := kg.below b
      replace xq := xq.below b
      replace xr := xr.below b
      clear b
      refine (DivMod_any ⟨_, rfl, xy⟩ ⟨_, rfl, xg⟩ hg0 16384 (by omega) Hd.out).mono ?_
      rintro e w11 ⟨u1, u2, rfl, j1, j2, b⟩
      replace hB := nextB hB b
      replace ia := ia.below b
      replace ib := ib.below b
      replace xx := xx.below b
      replace xy := xy.below b
      replace kx := kx.below b
      replace ky := ky.below b
      replace xg := xg.below b
      replace kg := kg.below b
      replace xq := xq.below b
      replace xr := xr.below b
      replace kq := kq.below b
      replace kr := kr.below b
      clear b
      obtain ⟨aov, qv, capv, rfl, xv⟩ := j1.slice
      clear j1
      obtain ⟨aow, qw, capw, rfl, xw⟩ := j2.slice
      clear j2
      obtain ⟨b, kv, kw⟩ := pro2 w11 (.slice aov qv capv) (.slice aow qw capw)
      obtain ⟨Rv, hRv⟩ : ∃ R, R = w11.heap.size := ⟨_, rfl⟩
      have cc0 := (kx.below b).cell
      have cc1 := (ky.below b).cell
      have cc2 := (kg.below b).cell
      have cc3 := (kq.below b).cell
      have cc4 := (kr.below b).cell
      have cc5 := kv.cell
      have cc6 := kw.cell
      go_wp2_with fail
      obtain ⟨w12, hw⟩ : ∃ w_ : World, w_ = ((w11.alloc (.cells #[.slice aov qv capv] 25)).alloc (.cells #[.slice aow qw capw] 25)) := ⟨_, rfl⟩
      rw [← hw] at b kv kw ⊢
      rw [← hRv] at kv kw ⊢
      clear hw hRv cc0 cc1 cc2 cc3 cc4 cc5 cc6
      replace hB := nextB hB b
      replace ia := ia.below b
      replace ib := ib.below b
      replace xx := xx.below b
      replace xy := xy.below b
      replace kx := kx.below b
      replace ky := ky.below b
      replace xg := xg.below b
      replace kg := kg.below b
      replace xq := xq.below b
      replace xr := xr.below b
      replace kq := kq.below b
      replace kr := kr.below b
      replace xv := xv.below b
      replace xw := xw.below b
      clear b
      have Fm : Hid (fitE (c / g * d) = 0) := Lib.hid (fit_ok (HG.out.ml))
      have Bm : Hid (c / g * d < P2 16384) := Lib.hid (HG.out.ml)
      refine (Mul_any ⟨_, rfl, xq⟩ ⟨_, rfl, xy⟩ 16384 (by omega) HG.out.ql Hd.out).mono ?_
      rintro e w13 ⟨v_, rfl, j_, b⟩
      rw [Fm.out, if_pos rfl] at j_
      rw [Fm.out]
      replace hB := nextB hB b
      replace ia := ia.below b
      replace ib := ib.below b
      replace xx := xx.below b
      replace xy := xy.below b
      replace kx := kx.below b
      replace ky := ky.below b
      replace xg := xg.below b
      replace kg := kg.below b
      replace xq := xq.below b
      replace xr := xr.below b
      replace kq := kq.below b
      replace kr := kr.below b
      replace xv := xv.below b
      replace xw := xw.below b
      replace kv := kv.below b
      replace kw := kw.below b
      clear b
      obtain ⟨aom, qm, capm, rfl, xm⟩ := j_.slice
      clear j_
      obtain ⟨b, km⟩ := pro1 w13 (.slice aom qm capm)
      obtain ⟨Rm, hRm⟩ : ∃ R, R = w13.heap.size := ⟨_, rfl⟩
      have cc0 := (kx.below b).cell
      have cc1 := (ky.below b).cell
      have cc2 := (kg.below b).cell
      have cc3 := (kq.below b).cell
      have cc4 := (kr.below b).cell
      have cc5 := (kv.below b).cell
      have cc6 := (kw.below b).cell
      have cc7 := km.cell
      go_wp2_with fail
      obtain ⟨w14, hw⟩ : ∃ w_ : World, w_ = (w13.alloc (.cells #[.slice aom qm capm] 25)) := ⟨_, rfl⟩
      rw [← hw] at b km ⊢
      rw [← hRm] at km ⊢
      clear hw hRm cc0 cc1 cc2 cc3 cc4 cc5 cc6 cc7
      replace hB := nextB hB b
      replace ia := ia.below b
      replace ib := ib.below b
      replace xx := xx.below b
      replace xy := xy.below b
      replace kx := kx.below b
      replace ky := ky.below b
      replace xg := xg.below b
      replace kg := kg.below b
      replace xq := xq.below b
      replace xr := xr.below b
      replace kq := kq.below b
      replace kr := kr.below b
      replace xv := xv.below b
      replace xw := xw.below b
      replace kv := kv.below b
      replace kw := kw.below b
      replace xm := xm.below b
      clear b
      have Fl : Hid (fitE (g * (c / g * d)) = 0) := Lib.hid (fit_ok (HG.out.ll))
      have Bl : Hid (g * (c / g * d) < P2 16384) := Lib.hid (HG.out.ll)
      refine (Mul_any ⟨_, rfl, xg⟩ ⟨_, rfl, xm⟩ 16384 (by omega) HG.out.gl Bm.out).mono ?_
      rintro e w15 ⟨v_, rfl, j_, b⟩
      rw [Fl.out, if_pos rfl] at j_
      rw [Fl.out]
      replace hB := nextB hB b
      replace ia := ia.below b
      replace ib := ib.below b
      replace xx := xx.below b
      replace xy := xy.below b
      replace kx := kx.below b
      replace ky := ky.below b
      replace xg := xg.below b
      replace kg := kg.below b
      replace xq := xq.below b
      replace xr := xr.below b
      replace kq := kq.below b
      replace kr := kr.below b
      replace xv := xv.below b
      replace xw := xw.below b
      replace kv := kv.below b
      replace kw := kw.below b
      replace xm := xm.below b
      replace km := km.below b
      clear b
      obtain ⟨aol, ql, capl, rfl, xl⟩ := j_.slice
      clear j_
      obtain ⟨b, kl⟩ := pro1 w15 (.slice aol ql capl)
      obtain ⟨Rl, hRl⟩ : ∃ R, R = w15.heap.size := ⟨_, rfl⟩
      have cc0 := (kx.below b).cell
      have cc1 := (ky.below b).cell
      have cc2 := (kg.below b).cell
      have cc3 := (kq.below b).cell
      have cc4 := (kr.below b).cell
      have cc5 := (kv.below b).cell
      have cc6 := (kw.below b).cell
      have cc7 := (km.below b).cell
      have cc8 := kl.cell
      go_wp2_with fail
      obtain ⟨w16, hw⟩ : ∃ w_ : World, w_ = (w15.alloc (.cells #[.slice aol ql capl] 25)) := ⟨_, rfl⟩
      rw [← hw] at b kl ⊢
      rw [← hRl] at kl ⊢
      clear hw hRl cc0 cc1 cc2 cc3 cc4 cc5 cc6 cc7 cc8
      replace hB := nextB hB b
      replace ia := ia.below b
      replace ib := ib.below b
      replace xx := xx.below b
      replace xy := xy.below b
      replace kx := kx.below b
      replace ky := ky.below b
      replace xg := xg.below b
      replace kg := kg.below b
      replace xq := xq.below b
      replace xr := xr.below b
      replace kq := kq.below b
      replace kr := kr.below b
      replace xv := xv.below b
      replace xw := xw.below b
      replace kv := kv.below b
      replace kw := kw.below b
      replace xm := xm.below b
      replace km := km.below b
      replace xl := xl.below b
      clear b
      have Fp : Hid (fitE (c * d) = 0) := Lib.hid (fit_ok (HG.out.pl))
      have Bp : Hid (c * d < P2 16384) := Lib.hid (HG.out.pl)
      refine (Mul_any ⟨_, rfl, xx⟩ ⟨_, rfl, xy⟩ 16384 (by omega) Hc.out Hd.out).mono ?_
      rintro e w17 ⟨v_, rfl, j_, b⟩
      rw [Fp.out, if_pos rfl] at j_
      rw [Fp.out]
      replace hB := nextB hB b
      replace ia := ia.below b
      replace ib := ib.below b
      replace xx := xx.below b
      replace xy := xy.below b
      replace kx := kx.below b
      replace ky := ky.below b
      replace xg := xg.below b
      replace kg := kg.below b
      replace xq := xq.below b
      replace xr := xr.below b
      replace kq := kq.below b
      replace kr := kr.below b
      replace xv := xv.below b
      replace xw := xw.below b
      replace kv := kv.below b
      replace kw := kw.below b
      replace xm := xm.below b
      replace km := km.below b
      replace xl := xl.below b
      replace kl := kl.below b
      clear b
      obtain ⟨aop, qp, capp, rfl, xp⟩ := j_.slice
      clear j_
      obtain ⟨b, kp⟩ := pro1 w17 (.slice aop qp capp)
      obtain ⟨Rp, hRp⟩ : ∃ R, R = w17.heap.size := ⟨_, rfl⟩
      have cc0 := (kx.below b).cell
      have cc1 := (ky.below b).cell
      have cc2 := (kg.below b).cell
      have cc3 := (kq.below b).cell
      have cc4 := (kr.below b).cell
      have cc5 := (kv.below b).cell
      have cc6 := (kw.below b).cell
      have cc7 := (km.below b).cell
      have cc8 := (kl.below b).cell
      have cc9 := kp.cell
      go_wp2_with fail
      obtain ⟨w18, hw⟩ : ∃ w_ : World, w_ = (w17.alloc (.cells #[.slice aop qp capp] 25)) := ⟨_, rfl⟩
      rw [← hw] at b kp ⊢
      rw [← hRp] at kp ⊢
      clear hw hRp cc0 cc1 cc2 cc3 cc4 cc5 cc6 cc7 cc8 cc9
      replace hB := nextB hB b
      replace ia := ia.below b
      replace ib := ib.below b
      replace xx := xx.below b
      replace xy := xy.below b
      replace kx := kx.below b
      replace ky := ky.below b
      replace xg := xg.below b
      replace kg := kg.below b
      replace xq := xq.below b
      replace xr := xr.below b
      replace kq := kq.below b
      replace kr := kr.below b
      replace xv := xv.below b
      replace xw := xw.below b
      replace kv := kv.below b
      replace kw := kw.below b
      replace xm := xm.below b
      replace km := km.below b
      replace xl := xl.below b
      replace kl := kl.below b
      replace xp := xp.below b
      clear b
      refine (Gcd_any ⟨_, rfl, xq⟩ ⟨_, rfl, xv⟩ 16384 (by omega) HG.out.ql HG.out.vl).mono ?_
      rintro e w19 ⟨v_, rfl, j_, b⟩
      rw [HG.out.one] at j_
      replace hB := nextB hB b
      replace ia := ia.below b
      replace ib := ib.below b
      replace xx := xx.below b
      replace xy := xy.below b
      replace kx := kx.below b
      replace ky := ky.below b
      replace xg := xg.below b
      replace kg := kg.below b
      replace xq := xq.below b
      replace xr := xr.below b
      replace kq := kq.below b
      replace kr := kr.below b
      replace xv := xv.below b
      replace xw := xw.below b
      replace kv := kv.below b
      replace kw := kw.below b
      replace xm := xm.below b
      replace km := km.below b
      replace xl := xl.below b
      replace kl := kl.below b
      replace xp := xp.below b
      replace kp := kp.below b
      clear b
      obtain ⟨aoo, qo, capo, rfl, xo⟩ := j_.slice
      clear j_
      obtain ⟨b, ko⟩ := pro1 w19 (.slice aoo qo capo)
      obtain ⟨Ro, hRo⟩ : ∃ R, R = w19.heap.size := ⟨_, rfl⟩
      have cc0 := (kx.below b).cell
      have cc1 := (ky.below b).cell
      have cc2 := (kg.below b).cell
      have cc3 := (kq.below b).cell
      have cc4 := (kr.below b).cell
      have cc5 := (kv.below b).cell
      have cc6 := (kw.below b).cell
      have cc7 := (km.below b).cell
      have cc8 := (kl.below b).cell
      have cc9 := (kp.below b).cell
      have cc10 := ko.cell
      go_wp2_with fail
      obtain ⟨w20, hw⟩ : ∃ w_ : World, w_ = (w19.alloc (.cells #[.slice aoo qo capo] 25)) := ⟨_, rfl⟩
      rw [← hw] at b ko ⊢
      rw [← hRo] at ko ⊢
      clear hw hRo cc0 cc1 cc2 cc3 cc4 cc5 cc6 cc7 cc8 cc9 cc10
      replace hB := nextB hB b
      replace ia := ia.below b
      replace ib := ib.below b
      replace xx := xx.below b
      replace xy := xy.below b
      replace kx := kx.below b
      replace ky := ky.below b
      replace xg := xg.below b
      replace kg := kg.below b
      replace xq := xq.below b
      replace xr := xr.below b
      replace kq := kq.below b
      replace kr := kr.below b
      replace xv := xv.below b
      replace xw := xw.below b
      replace kv := kv.below b
      replace kw := kw.below b
      replace xm := xm.below b
      replace km := km.below b
      replace xl := xl.below b
      replace kl := kl.below b
      replace xp := xp.below b
      replace kp := kp.below b
      replace xo := xo.below b
      clear b
      refine (BitLen_any ⟨_, rfl, xr⟩ 16384 (by omega) HG.out.rl).mono ?_
      rintro e w21 ⟨rfl, b⟩
      rw [HG.out.r0, show blen 0 = 0 from rfl]
      replace hB := nextB hB b
      replace ia := ia.below b
      replace ib := ib.below b
      replace xx := xx.below b
      replace xy := xy.below b
      replace kx := kx.below b
      replace ky := ky.below b
      replace xg := xg.below b
      replace kg := kg.below b
      replace xq := xq.below b
      replace xr := xr.below b
      replace kq := kq.below b
      replace kr := kr.below b
      replace xv := xv.below b
      replace xw := xw.below b
      replace kv := kv.below b
      replace kw := kw.below b
      replace xm := xm.below b
      replace km := km.below b
      replace xl := xl.below b
      replace kl := kl.below b
      replace xp := xp.below b
      replace kp := kp.below b
      replace xo := xo.below b
      replace ko := ko.below b
      clear b
      have cc0 := kx.cell
      have cc1 := ky.cell
      have cc2 := kg.cell
      have cc3 := kq.cell
      have cc4 := kr.cell
      have cc5 := kv.cell
      have cc6 := kw.cell
      have cc7 := km.cell
      have cc8 := kl.cell
      have cc9 := kp.cell
      have cc10 := ko.cell
      go_wp2_with fail
      clear cc0 cc1 cc2 cc3 cc4 cc5 cc6 cc7 cc8 cc9 cc10
      refine (BitLen_any ⟨_, rfl, xw⟩ 16384 (by omega) HG.out.wl).mono ?_
      rintro e w22 ⟨rfl, b⟩
      rw [HG.out.w0, show blen 0 = 0 from rfl]
      replace hB := nextB hB b
      replace ia := ia.below b
      replace ib := ib.below b
      replace xx := xx.below b
      replace xy := xy.below b
      replace kx := kx.below b
      replace ky := ky.below b
      replace xg := xg.below b
      replace kg := kg.below b
      replace xq := xq.below b
      replace xr := xr.below b
      replace kq := kq.below b
      replace kr := kr.below b
      replace xv := xv.below b
      replace xw := xw.below b
      replace kv := kv.below b
      replace kw := kw.below b
      replace xm := xm.below b
      replace km := km.below b
      replace xl := xl.below b
      replace kl := kl.below b
      replace xp := xp.below b
      replace kp := kp.below b
      replace xo := xo.below b
      replace ko := ko.below b
      clear b
      have cc0 := kx.cell
      have cc1 := ky.cell
      have cc2 := kg.cell
      have cc3 := kq.cell
      have cc4 := kr.cell
      have cc5 := kv.cell
      have cc6 := kw.cell
      have cc7 := km.cell
      have cc8 := kl.cell
      have cc9 := kp.cell
      have cc10 := ko.cell
      go_wp2_with fail
      clear cc0 cc1 cc2 cc3 cc4 cc5 cc6 cc7 cc8 cc9 cc10
      refine (Cmp_any ⟨_, rfl, xl⟩ ⟨_, rfl, xp⟩).mono ?_
      rintro e w23 ⟨rfl, b⟩
      rw [HG.out.eq, cmpI_self]
      replace hB := nextB hB b
      replace ia := ia.below b
      replace ib := ib.below b
      replace xx := xx.below b
      replace xy := xy.below b
      replace kx := kx.below b
      replace ky := ky.below b
      replace xg := xg.below b
      replace kg := kg.below b
      replace xq := xq.below b
      replace xr := xr.below b
      replace kq := kq.below b
      replace kr := kr.below b
      replace xv := xv.below b
      replace xw := xw.below b
      replace kv := kv.below b
      replace kw := kw.below b
      replace xm := xm.below b
      replace km := km.below b
      replace xl := xl.below b
      replace kl := kl.below b
      replace xp := xp.below b
      replace kp := kp.below b
      replace xo := xo.below b
      replace ko := ko.below b
      clear b
      have cc0 := kx.cell
      have cc1 := ky.cell
      have cc2 := kg.cell
      have cc3 := kq.cell
      have cc4 := kr.cell
      have cc5 := kv.cell
      have cc6 := kw.cell
      have cc7 := km.cell
      have cc8 := kl.cell
      have cc9 := kp.cell
      have cc10 := ko.cell
      go_wp2_with fail
      clear cc0 cc1 cc2 cc3 cc4 cc5 cc6 cc7 cc8 cc9 cc10
      refine (String_any ⟨_, rfl, xo⟩ 16384 (by omega) (P2_16384 (by omega))).mono ?_
      rintro e w24 ⟨rfl, b⟩
      rw [txt_1]
      replace hB := nextB hB b
      replace ia := ia.below b
      replace ib := ib.below b
      replace xx := xx.below b
      replace xy := xy.below b
      replace kx := kx.below b
      replace ky := ky.below b
      replace xg := xg.below b
      replace kg := kg.below b
      replace xq := xq.below b
      replace xr := xr.below b
      replace kq := kq.below b
      replace kr := kr.below b
      replace xv := xv.below b
      replace xw := xw.below b
      replace kv := kv.below b
      replace kw := kw.below b
      replace xm := xm.below b
      replace km := km.below b
      replace xl := xl.below b
      replace kl := kl.below b
      replace xp := xp.below b
      replace kp := kp.below b
      replace xo := xo.below b
      replace ko := ko.below b
      clear b
      have cc0 := kx.cell
      have cc1 := ky.cell
      have cc2 := kg.cell
      have cc3 := kq.cell
      have cc4 := kr.cell
      have cc5 := kv.cell
      have cc6 := kw.cell
      have cc7 := km.cell
      have cc8 := kl.cell
      have cc9 := kp.cell
      have cc10 := ko.cell
      go_wp2_with fail
      clear cc0 cc1 cc2 cc3 cc4 cc5 cc6 cc7 cc8 cc9 cc10
      refine (awake_any _).mono ?_
      rintro e w25 ⟨rfl, b⟩
      replace hB := nextB hB b
      replace ia := ia.below b
      replace ib := ib.below b
      replace xx := xx.below b
      replace xy := xy.below b
      replace kx := kx.below b
      replace ky := ky.below b
      replace xg := xg.below b
      replace kg := kg.below b
      replace xq := xq.below b
      replace xr := xr.below b
      replace kq := kq.below b
      replace kr := kr.below b
      replace xv := xv.below b
      replace xw := xw.below b
      replace kv := kv.below b
      replace kw := kw.below b
      replace xm := xm.below b
      replace km := km.below b
      replace xl := xl.below b
      replace kl := kl.below b
      replace xp := xp.below b
      replace kp := kp.below b
      replace xo := xo.below b
      replace ko := ko.below b
      clear b
      go_wp2
      go_ret
      exact ⟨rfl, hB⟩

end Go.Proofs.Ytppbhjhbaknidaa
