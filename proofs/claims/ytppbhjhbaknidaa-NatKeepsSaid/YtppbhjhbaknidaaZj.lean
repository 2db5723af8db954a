/-
  The walk of the law NatEdge. No condition.
-/
import Derived.Test.YtppbhjhbaknidaaZi
set_option linter.unusedVariables false
set_option linter.unusedSimpArgs false

/-
  The walk of the law NatEdge. No condition.
-/
set_option linter.unusedVariables false
set_option linter.unusedSimpArgs false
namespace Go.Proofs.Ytppbhjhbaknidaa
open Go.RowKit

structure EdgeOk (n k : Nat) : Prop where
  one : 1 < P2 16384
  fx : fitE (P2 n) = 0
  fy : fitE (P2 k) = 0
  xl : P2 n < P2 16384
  yl : P2 k < P2 16384
  sub : ¬ P2 n < 1
  ll : P2 n - 1 < P2 16384
  bx : blen (P2 n) = n + 1
  bl : blen (P2 n - 1) = n
  bf : blen (P2 n + (P2 n - 1)) = n + 1
  fl : P2 n + (P2 n - 1) < P2 16384
  ff : fitE (P2 n + (P2 n - 1)) = 0
  fo1 : 16384 ≤ n + 1 → fitE (P2 n + (P2 n - 1) + 1) = 3
  fo2 : n + 1 < 16384 → fitE (P2 n + (P2 n - 1) + 1) = 0
  fp3 : 16384 < n + k + 1 → fitE (P2 n * P2 k) = 3
  fp0 : n + k + 1 ≤ 16384 → fitE (P2 n * P2 k) = 0
  pl : n + k + 1 ≤ 16384 → P2 n * P2 k < P2 16384
  bp : blen (P2 n * P2 k) = n + k + 1
  bit : bitAt (P2 n * P2 k) (n + k) = 1

theorem P2_slt {a b : Nat} (h : a < b) : P2 a < P2 b := by
  have h1 := P2_mono (show a + 1 ≤ b from h)
  have h2 := P2_succ a
  have h3 := P2_pos a
  omega
theorem blen_P2 (n : Nat) : blen (P2 n) = n + 1 := blen_eq (P2_slt (Nat.lt_succ_self n)) (Nat.le_refl _)
theorem blen_low (n : Nat) : blen (P2 n - 1) = n := by
  cases n with
  | zero => rfl
  | succ n =>
    have h2 := P2_succ n
    have h3 := P2_pos n
    exact blen_eq (by omega) (by omega)
theorem fit_P2 {a : Nat} (h : a < 16384) : fitE (P2 a) = 0 := if_pos (P2_slt h)
theorem fit_P2' {a : Nat} (h : 16384 ≤ a) : fitE (P2 a) = 3 := if_neg (Nat.not_lt.2 (P2_mono h))

theorem edge_ok (n k : Nat) (hn : n < 16384) (hk : k < 16384) : EdgeOk n k := by
  have hp := P2_pos n
  have e1 : P2 n + (P2 n - 1) = P2 (n + 1) - 1 := by have := P2_succ n; omega
  have e2 : P2 n + (P2 n - 1) + 1 = P2 (n + 1) := by have := P2_succ n; omega
  have hle : P2 (n + 1) ≤ P2 16384 := P2_mono hn
  have hpp := P2_pos (n + 1)
  have hx := P2_slt hn
  have em : P2 n * P2 k = P2 (n + k) := (P2_add n k).symm
  refine ⟨P2_16384 (by omega), fit_P2 hn, fit_P2 hk, hx, P2_slt hk, by omega, by omega, blen_P2 n, blen_low n, ?_, ?_, ?_, ?_, ?_, ?_, ?_, ?_, ?_, ?_⟩
  · rw [e1]; exact blen_low _
  · omega
  · refine if_pos ?_; omega
  · intro h; rw [e2]; exact fit_P2' h
  · intro h; rw [e2]; exact fit_P2 h
  · intro h; rw [em]; exact fit_P2' (by omega)
  · intro h; rw [em]; exact fit_P2 (by omega)
  · intro h; rw [em]; exact P2_slt (by omega)
  · rw [em]; exact blen_P2 _
  · rw [em]; unfold bitAt; rw [Nat.div_self (P2_pos _)]

set_option maxHeartbeats 16000000 in
set_option maxRecDepth 100000 in
theorem NatEdge_walk (n : Int) (k : Int) (w : World) (hnr : -9223372036854775808 ≤ n ∧ n ≤ 9223372036854775807) (hkr : -9223372036854775808 ≤ k ∧ k ≤ 9223372036854775807) :
    Calls Try.prog 23 #[.int .i64 n, .int .i64 k] w (RetB w true) := by
  have hB := Below.refl w.heap.size w
  go_enter Try.func23, Try.ntmps23
  by_cases hr : 0 ≤ n ∧ 0 ≤ k ∧ n < 16384 ∧ k < 16384
  · obtain ⟨h1, h2, h3, h4⟩ := hr
    obtain ⟨n, rfl⟩ := Int.eq_ofNat_of_zero_le h1
    obtain ⟨k, rfl⟩ := Int.eq_ofNat_of_zero_le h2
    have hE := edge_ok n k (by omega) (by omega)
    have HE := Lib.hid hE
    clear hE
    have hnr2 : n < 16384 := by omega
    have hkr2 : k < 16384 := by omega
    have HN := Lib.hid hnr2
    have HK := Lib.hid hkr2
    have HL1 := Lib.hid (fun w_ v_ (h : IsNat w_ v_ 1) => Lsh_any h n (by omega) 16384 (by omega) HE.out.one)
    have HL2 := Lib.hid (fun w_ v_ (h : IsNat w_ v_ 1) => Lsh_any h k (by omega) 16384 (by omega) HE.out.one)
    have hd1 : decide ((n : Int) < 0) = false := decide_eq_false (by omega)
    have hd2 : decide ((k : Int) < 0) = false := decide_eq_false (by omega)
    have hd3 : decide ((16384 : Int) ≤ (n : Int)) = false := decide_eq_false (by omega)
    have hd4 : decide ((16384 : Int) ≤ (k : Int)) = false := decide_eq_false (by omega)
    clear hnr hkr h1 h2 h3 h4
    go_wp2_with fail
    refine (New_any 1 (by omega)).mono ?_
    rintro e w1 ⟨v_, rfl, j_, b⟩
    rw [if_pos rfl] at j_
    replace hB := nextB hB b
    clear b
    obtain ⟨aoo, qo, capo, rfl, xo⟩ := j_.slice
    clear j_
    obtain ⟨b, ko⟩ := pro1 w1 (.slice aoo qo capo)
    obtain ⟨Ro, hRo⟩ : ∃ R, R = w1.heap.size := ⟨_, rfl⟩
    have cc0 := ko.cell
    go_wp2_with fail
    obtain ⟨w2, hw⟩ : ∃ w_ : World, w_ = (w1.alloc (.cells #[.slice aoo qo capo] 25)) := ⟨_, rfl⟩
    rw [← hw] at b ko ⊢
    rw [← hRo] at ko ⊢
    clear hw hRo cc0
    replace hB := nextB hB b
    replace xo := xo.below b
    clear b
    refine (HL1.out _ _ ⟨_, rfl, xo⟩).mono ?_
    rintro e w3 ⟨v_, rfl, j_, b⟩
    rw [Nat.one_mul] at j_ ⊢
    rw [HE.out.fx, if_pos rfl] at j_
    rw [HE.out.fx]
    replace hB := nextB hB b
    replace xo := xo.below b
    replace ko := ko.below b
    clear b
    obtain ⟨aox, qx, capx, rfl, xx⟩ := j_.slice
    clear j_
    obtain ⟨b, kx⟩ := pro1 w3 (.slice aox qx capx)
    obtain ⟨Rx, hRx⟩ : ∃ R, R = w3.heap.size := ⟨_, rfl⟩
    have cc0 := (ko.below b).cell
    have cc1 := kx.cell
    go_wp2_with fail
    obtain ⟨w4, hw⟩ : ∃ w_ : World, w_ = (w3.alloc (.cells #[.slice aox qx capx] 25)) := ⟨_, rfl⟩
    rw [← hw] at b kx ⊢
    rw [← hRx] at kx ⊢
    clear hw hRx cc0 cc1
    replace hB := nextB hB b
    replace xo := xo.below b
    replace ko := ko.below b
    replace xx := xx.below b
    clear b
    refine (HL2.out _ _ ⟨_, rfl, xo⟩).mono ?_
    rintro e w5 ⟨v_, rfl, j_, b⟩
    rw [Nat.one_mul] at j_ ⊢
    rw [HE.out.fy, if_pos rfl] at j_
    rw [HE.out.fy]
    replace hB := nextB hB b
    replace xo := xo.below b
    replace ko := ko.below b
    replace xx := xx.below b
    replace kx := kx.below b
    clear b
    obtain ⟨aoy, qy, capy, rfl, xy⟩ := j_.slice
    clear j_
    obtain ⟨b, ky⟩ := pro1 w5 (.slice aoy qy capy)
    obtain ⟨Ry, hRy⟩ : ∃ R, R = w5.heap.size := ⟨_, rfl⟩
    have cc0 := (ko.below b).cell
    have cc1 := (kx.below b).cell
    have cc2 := ky.cell
    go_wp2_with fail
    obtain ⟨w6, hw⟩ : ∃ w_ : World, w_ = (w5.alloc (.cells #[.slice aoy qy capy] 25)) := ⟨_, rfl⟩
    rw [← hw] at b ky ⊢
    rw [← hRy] at ky ⊢
    clear hw hRy cc0 cc1 cc2
    replace hB := nextB hB b
    replace xo := xo.below b
    replace ko := ko.below b
    replace xx := xx.below b
    replace kx := kx.below b
    replace xy := xy.below b
    clear b
    refine (Mul_any ⟨_, rfl, xx⟩ ⟨_, rfl, xy⟩ 16384 (by omega) HE.out.xl HE.out.yl).mono ?_
    rintro e w7 ⟨v_, rfl, j_, b⟩
    generalize he : fitE (P2 n * P2 k) = er at *
    have HER := Lib.hid he
    clear he
    replace hB := nextB hB b
    replace xo := xo.below b
    replace ko := ko.below b
    replace xx := xx.below b
    replace kx := kx.below b
    replace xy := xy.below b
    replace ky := ky.below b
    clear b
    obtain ⟨aop, qp, capp, rfl, xp⟩ := j_.slice
    clear j_
    obtain ⟨b, kp⟩ := pro1 w7 (.slice aop qp capp)
    obtain ⟨Rp, hRp⟩ : ∃ R, R = w7.heap.size := ⟨_, rfl⟩
    have cc0 := (ko.below b).cell
    have cc1 := (kx.below b).cell
    have cc2 := (ky.below b).cell
    have cc3 := kp.cell
    go_wp2_with fail
    obtain ⟨w8, hw⟩ : ∃ w_ : World, w_ = (w7.alloc (.cells #[.slice aop qp capp] 25)) := ⟨_, rfl⟩
    rw [← hw] at b kp ⊢
    rw [← hRp] at kp ⊢
    clear hw hRp cc0 cc1 cc2 cc3
    replace hB := nextB hB b
    replace xo := xo.below b
    replace ko := ko.below b
    replace xx := xx.below b
    replace kx := kx.below b
    replace xy := xy.below b
    replace ky := ky.below b
    replace xp := xp.below b
    clear b
    refine (Sub_any ⟨_, rfl, xx⟩ ⟨_, rfl, xo⟩ 16384 (by omega) HE.out.xl).mono ?_
    rintro e w9 ⟨v_, rfl, j_, b⟩
    rw [if_neg HE.out.sub, if_pos rfl] at j_
    rw [if_neg HE.out.sub]
    replace hB := nextB hB b
    replace xo := xo.below b
    replace ko := ko.below b
    replace xx := xx.below b
    replace kx := kx.below b
    replace xy := xy.below b
    replace ky := ky.below b
    replace xp := xp.below b
    replace kp := kp.below b
    clear b
    obtain ⟨aol, ql, capl, rfl, xl⟩ := j_.slice
    clear j_
    obtain ⟨b, kl⟩ := pro1 w9 (.slice aol ql capl)
    obtain ⟨Rl, hRl⟩ : ∃ R, R = w9.heap.size := ⟨_, rfl⟩
    have cc0 := (ko.below b).cell
    have cc1 := (kx.below b).cell
    have cc2 := (ky.below b).cell
    have cc3 := (kp.below b).cell
    have cc4 := kl.cell
    go_wp2_with fail
    obtain ⟨w10, hw⟩ : ∃ w_ : World, w_ = (w9.alloc (.cells #[.slice aol ql capl] 25)) := ⟨_, rfl⟩
    rw [← hw] at b kl ⊢
    rw [← hRl] at kl ⊢
    clear hw hRl cc0 cc1 cc2 cc3 cc4
    replace hB := nextB hB b
    replace xo := xo.below b
    replace ko := ko.below b
    replace xx := xx.below b
    replace kx := kx.below b
    replace xy := xy.below b
    replace ky := ky.below b
    replace xp := xp.below b
    replace kp := kp.below b
    replace xl := xl.below b
    clear b
    refine (BitLen_any ⟨_, rfl, xx⟩ 16384 (by omega) HE.out.xl).mono ?_
    rintro e w11 ⟨rfl, b⟩
    rw [show ((blen (P2 n) : Nat) : Int) = (n : Int) + 1 by rw [HE.out.bx]; rfl]
    replace hB := nextB hB b
    replace xo := xo.below b
    replace ko := ko.below b
    replace xx := xx.below b
    replace kx := kx.below b
    replace xy := xy.below b
    replace ky := ky.below b
    replace xp := xp.below b
    replace kp := kp.below b
    replace xl := xl.below b
    replace kl := kl.below b
    clear b
    have cc0 := ko.cell
    have cc1 := kx.cell
    have cc2 := ky.cell
    have cc3 := kp.cell
    have cc4 := kl.cell
    go_wp2_with fail
    clear cc0 cc1 cc2 cc3 cc4
    refine (BitLen_any ⟨_, rfl, xl⟩ 16384 (by omega) HE.out.ll).mono ?_
    rintro e w12 ⟨rfl, b⟩
    rw [show ((blen (P2 n - 1) : Nat) : Int) = (n : Int) by rw [HE.out.bl]]
    replace hB := nextB hB b
    replace xo := xo.below b
    replace ko := ko.below b
    replace xx := xx.below b
    replace kx := kx.below b
    replace xy := xy.below b
    replace ky := ky.below b
    replace xp := xp.below b
    replace kp := kp.below b
    replace xl := xl.below b
    replace kl := kl.below b
    clear b
    by_cases hb : 16384 < n + k + 1
    · have e3 := HE.out.fp3 (by omega)
      have e4 := HER.out
      rw [e3] at e4
      subst e4
      have hdb : decide ((16384 : Int) < (n : Int) + (k : Int) + 1) = true := decide_eq_true (by omega)
      clear hb e3 HER
      by_cases hm : n = 16383
      · have hdm : ((n : Int) + 1 == 16384) = true := by rw [beq_iff_eq]; omega
        have hf := HE.out.fo1 (by omega)
        have HF := Lib.hid hf
        clear hf hm
        have cc0 := ko.cell
        have cc1 := kx.cell
        have cc2 := ky.cell
        have cc3 := kp.cell
        have cc4 := kl.cell
        go_wp2_with fail
        clear cc0 cc1 cc2 cc3 cc4
        refine (Add_any ⟨_, rfl, xx⟩ ⟨_, rfl, xl⟩ 16384 (by omega) HE.out.xl HE.out.ll).mono ?_
        rintro e w13 ⟨v_, rfl, j_, b⟩
        rw [HE.out.ff, if_pos rfl] at j_
        rw [HE.out.ff]
        replace hB := nextB hB b
        replace xo := xo.below b
        replace ko := ko.below b
        replace xx := xx.below b
        replace kx := kx.below b
        replace xy := xy.below b
        replace ky := ky.below b
        replace xp := xp.below b
        replace kp := kp.below b
        replace xl := xl.below b
        replace kl := kl.below b
        clear b
        obtain ⟨aof, qf, capf, rfl, xf⟩ := j_.slice
        clear j_
        obtain ⟨b, kf⟩ := pro1 w13 (.slice aof qf capf)
        obtain ⟨Rf, hRf⟩ : ∃ R, R = w13.heap.size := ⟨_, rfl⟩
        have cc0 := (ko.below b).cell
        have cc1 := (kx.below b).cell
        have cc2 := (ky.below b).cell
        have cc3 := (kp.below b).cell
        have cc4 := (kl.below b).cell
        have cc5 := kf.cell
        go_wp2_with fail
        obtain ⟨w14, hw⟩ : ∃ w_ : World, w_ = (w13.alloc (.cells #[.slice aof qf capf] 25)) := ⟨_, rfl⟩
        rw [← hw] at b kf ⊢
        rw [← hRf] at kf ⊢
        clear hw hRf cc0 cc1 cc2 cc3 cc4 cc5
        replace hB := nextB hB b
        replace xo := xo.below b
        replace ko := ko.below b
        replace xx := xx.below b
        replace kx := kx.below b
        replace xy := xy.below b
        replace ky := ky.below b
        replace xp := xp.below b
        replace kp := kp.below b
        replace xl := xl.below b
        replace kl := kl.below b
        replace xf := xf.below b
        clear b
        refine (Add_any ⟨_, rfl, xf⟩ ⟨_, rfl, xo⟩ 16384 (by omega) HE.out.fl HE.out.one).mono ?_
        rintro e w15 ⟨v_, rfl, j_, b⟩
        rw [HF.out]
        replace hB := nextB hB b
        replace xo := xo.below b
        replace ko := ko.below b
        replace xx := xx.below b
        replace kx := kx.below b
        replace xy := xy.below b
        replace ky := ky.below b
        replace xp := xp.below b
        replace kp := kp.below b
        replace xl := xl.below b
        replace kl := kl.below b
        replace xf := xf.below b
        replace kf := kf.below b
        clear b
        obtain ⟨aoz, qz, capz, rfl, xz⟩ := j_.slice
        clear j_
        obtain ⟨b, kz⟩ := pro1 w15 (.slice aoz qz capz)
        obtain ⟨Rz, hRz⟩ : ∃ R, R = w15.heap.size := ⟨_, rfl⟩
        have cc0 := (ko.below b).cell
        have cc1 := (kx.below b).cell
        have cc2 := (ky.below b).cell
        have cc3 := (kp.below b).cell
        have cc4 := (kl.below b).cell
        have cc5 := (kf.below b).cell
        have cc6 := kz.cell
        go_wp2_with fail
        obtain ⟨w16, hw⟩ : ∃ w_ : World, w_ = (w15.alloc (.cells #[.slice aoz qz capz] 25)) := ⟨_, rfl⟩
        rw [← hw] at b kz ⊢
        rw [← hRz] at kz ⊢
        clear hw hRz cc0 cc1 cc2 cc3 cc4 cc5 cc6
        replace hB := nextB hB b
        replace xo := xo.below b
        replace ko := ko.below b
        replace xx := xx.below b
        replace kx := kx.below b
        replace xy := xy.below b
        replace ky := ky.below b
        replace xp := xp.below b
        replace kp := kp.below b
        replace xl := xl.below b
        replace kl := kl.below b
        replace xf := xf.below b
        replace kf := kf.below b
        replace xz := xz.below b
        clear b
        refine (BitLen_any ⟨_, rfl, xf⟩ 16384 (by omega) HE.out.fl).mono ?_
        rintro e w17 ⟨rfl, b⟩
        rw [show ((blen (P2 n + (P2 n - 1)) : Nat) : Int) = (n : Int) + 1 by rw [HE.out.bf]; rfl]
        replace hB := nextB hB b
        replace xo := xo.below b
        replace ko := ko.below b
        replace xx := xx.below b
        replace kx := kx.below b
        replace xy := xy.below b
        replace ky := ky.below b
        replace xp := xp.below b
        replace kp := kp.below b
        replace xl := xl.below b
        replace kl := kl.below b
        replace xf := xf.below b
        replace kf := kf.below b
        replace xz := xz.below b
        replace kz := kz.below b
        clear b
        have cc0 := ko.cell
        have cc1 := kx.cell
        have cc2 := ky.cell
        have cc3 := kp.cell
        have cc4 := kl.cell
        have cc5 := kf.cell
        have cc6 := kz.cell
        go_wp2_with fail
        clear cc0 cc1 cc2 cc3 cc4 cc5 cc6
        refine (awake_any _).mono ?_
        rintro e w18 ⟨rfl, b⟩
        replace hB := nextB hB b
        replace xo := xo.below b
        replace ko := ko.below b
        replace xx := xx.below b
        replace kx := kx.below b
        replace xy := xy.below b
        replace ky := ky.below b
        replace xp := xp.below b
        replace kp := kp.below b
        replace xl := xl.below b
        replace kl := kl.below b
        replace xf := xf.below b
        replace kf := kf.below b
        replace xz := xz.below b
        replace kz := kz.below b
        clear b
        go_wp2
        go_ret
        exact ⟨rfl, hB⟩
      · have hdm : ((n : Int) + 1 == 16384) = false := by rw [beq_eq_false_iff_ne]; omega
        have hf := HE.out.fo2 (by have := HN.out; omega)
        have HF := Lib.hid hf
        clear hf hm
        have cc0 := ko.cell
        have cc1 := kx.cell
        have cc2 := ky.cell
        have cc3 := kp.cell
        have cc4 := kl.cell
        go_wp2_with fail
        clear cc0 cc1 cc2 cc3 cc4
        refine (Add_any ⟨_, rfl, xx⟩ ⟨_, rfl, xl⟩ 16384 (by omega) HE.out.xl HE.out.ll).mono ?_
        rintro e w13 ⟨v_, rfl, j_, b⟩
        rw [HE.out.ff, if_pos rfl] at j_
        rw [HE.out.ff]
        replace hB := nextB hB b
        replace xo := xo.below b
        replace ko := ko.below b
        replace xx := xx.below b
        replace kx := kx.below b
        replace xy := xy.below b
        replace ky := ky.below b
        replace xp := xp.below b
        replace kp := kp.below b
        replace xl := xl.below b
        replace kl := kl.below b
        clear b
        obtain ⟨aof, qf, capf, rfl, xf⟩ := j_.slice
        clear j_
        obtain ⟨b, kf⟩ := pro1 w13 (.slice aof qf capf)
        obtain ⟨Rf, hRf⟩ : ∃ R, R = w13.heap.size := ⟨_, rfl⟩
        have cc0 := (ko.below b).cell
        have cc1 := (kx.below b).cell
        have cc2 := (ky.below b).cell
        have cc3 := (kp.below b).cell
        have cc4 := (kl.below b).cell
        have cc5 := kf.cell
        go_wp2_with fail
        obtain ⟨w14, hw⟩ : ∃ w_ : World, w_ = (w13.alloc (.cells #[.slice aof qf capf] 25)) := ⟨_, rfl⟩
        rw [← hw] at b kf ⊢
        rw [← hRf] at kf ⊢
        clear hw hRf cc0 cc1 cc2 cc3 cc4 cc5
        replace hB := nextB hB b
        replace xo := xo.below b
        replace ko := ko.below b
        replace xx := xx.below b
        replace kx := kx.below b
        replace xy := xy.below b
        replace ky := ky.below b
        replace xp := xp.below b
        replace kp := kp.below b
        replace xl := xl.below b
        replace kl := kl.below b
        replace xf := xf.below b
        clear b
        refine (Add_any ⟨_, rfl, xf⟩ ⟨_, rfl, xo⟩ 16384 (by omega) HE.out.fl HE.out.one).mono ?_
        rintro e w15 ⟨v_, rfl, j_, b⟩
        rw [HF.out]
        replace hB := nextB hB b
        replace xo := xo.below b
        replace ko := ko.below b
        replace xx := xx.below b
        replace kx := kx.below b
        replace xy := xy.below b
        replace ky := ky.below b
        replace xp := xp.below b
        replace kp := kp.below b
        replace xl := xl.below b
        replace kl := kl.below b
        replace xf := xf.below b
        replace kf := kf.below b
        clear b
        obtain ⟨aoz, qz, capz, rfl, xz⟩ := j_.slice
        clear j_
        obtain ⟨b, kz⟩ := pro1 w15 (.slice aoz qz capz)
        obtain ⟨Rz, hRz⟩ : ∃ R, R = w15.heap.size := ⟨_, rfl⟩
        have cc0 := (ko.below b).cell
        have cc1 := (kx.below b).cell
        have cc2 := (ky.below b).cell
        have cc3 := (kp.below b).cell
        have cc4 := (kl.below b).cell
        have cc5 := (kf.below b).cell
        have cc6 := kz.cell
        go_wp2_with fail
        obtain ⟨w16, hw⟩ : ∃ w_ : World, w_ = (w15.alloc (.cells #[.slice aoz qz capz] 25)) := ⟨_, rfl⟩
        rw [← hw] at b kz ⊢
        rw [← hRz] at kz ⊢
        clear hw hRz cc0 cc1 cc2 cc3 cc4 cc5 cc6
        replace hB := nextB hB b
        replace xo := xo.below b
        replace ko := ko.below b
        replace xx := xx.below b
        replace kx := kx.below b
        replace xy := xy.below b
        replace ky := ky.below b
        replace xp := xp.below b
        replace kp := kp.below b
        replace xl := xl.below b
        replace kl := kl.below b
        replace xf := xf.below b
        replace kf := kf.below b
        replace xz := xz.below b
        clear b
        refine (BitLen_any ⟨_, rfl, xf⟩ 16384 (by omega) HE.out.fl).mono ?_
        rintro e w17 ⟨rfl, b⟩
        rw [show ((blen (P2 n + (P2 n - 1)) : Nat) : Int) = (n : Int) + 1 by rw [HE.out.bf]; rfl]
        replace hB := nextB hB b
        replace xo := xo.below b
        replace ko := ko.below b
        replace xx := xx.below b
        replace kx := kx.below b
        replace xy := xy.below b
        replace ky := ky.below b
        replace xp := xp.below b
        replace kp := kp.below b
        replace xl := xl.below b
        replace kl := kl.below b
        replace xf := xf.below b
        replace kf := kf.below b
        replace xz := xz.below b
        replace kz := kz.below b
        clear b
        have cc0 := ko.cell
        have cc1 := kx.cell
        have cc2 := ky.cell
        have cc3 := kp.cell
        have cc4 := kl.cell
        have cc5 := kf.cell
        have cc6 := kz.cell
        go_wp2_with fail
        clear cc0 cc1 cc2 cc3 cc4 cc5 cc6
        refine (awake_any _).mono ?_
        rintro e w18 ⟨rfl, b⟩
        replace hB := nextB hB b
        replace xo := xo.below b
        replace ko := ko.below b
        replace xx := xx.below b
        replace kx := kx.below b
        replace xy := xy.below b
        replace ky := ky.below b
        replace xp := xp.below b
        replace kp := kp.below b
        replace xl := xl.below b
        replace kl := kl.below b
        replace xf := xf.below b
        replace kf := kf.below b
        replace xz := xz.below b
        replace kz := kz.below b
        clear b
        go_wp2
        go_ret
        exact ⟨rfl, hB⟩
    · have e3 := HE.out.fp0 (by omega)
      have e4 := HER.out
      rw [e3] at e4
      subst e4
      rw [if_pos rfl] at xp
      have HP := Lib.hid (HE.out.pl (by omega))
      have hdb : decide ((16384 : Int) < (n : Int) + (k : Int) + 1) = false := decide_eq_false (by omega)
      clear hb e3 HER
      have HBit := Lib.hid (show ∀ w_ v_, IsNat w_ v_ (P2 n * P2 k) → Calls Try.prog 78 #[v_, .int .i64 ((n : Int) + (k : Int))] w_ (RetI w_ 1) from fun w_ v_ h => by have := Bit_any h (n + k) (by have := HN.out; have := HK.out; omega) 16384 (by omega) HP.out; rw [HE.out.bit] at this; exact this)
      have cc0 := ko.cell
      have cc1 := kx.cell
      have cc2 := ky.cell
      have cc3 := kp.cell
      have cc4 := kl.cell
      go_wp2_with fail
      clear cc0 cc1 cc2 cc3 cc4
      refine (BitLen_any ⟨_, rfl, xp⟩ 16384 (by omega) HP.out).mono ?_
      rintro e w13 ⟨rfl, b⟩
      rw [show ((blen (P2 n * P2 k) : Nat) : Int) = (n : Int) + (k : Int) + 1 by rw [HE.out.bp]; rfl]
      replace hB := nextB hB b
      replace xo := xo.below b
      replace ko := ko.below b
      replace xx := xx.below b
      replace kx := kx.below b
      replace xy := xy.below b
      replace ky := ky.below b
      replace xp := xp.below b
      replace kp := kp.below b
      replace xl := xl.below b
      replace kl := kl.below b
      clear b
      have cc0 := ko.cell
      have cc1 := kx.cell
      have cc2 := ky.cell
      have cc3 := kp.cell
      have cc4 := kl.cell
      go_wp2_with fail
      clear cc0 cc1 cc2 cc3 cc4
      refine (HBit.out _ _ ⟨_, rfl, xp⟩).mono ?_
      rintro e w14 ⟨rfl, b⟩
      replace hB := nextB hB b
      replace xo := xo.below b
      replace ko := ko.below b
      replace xx := xx.below b
      replace kx := kx.below b
      replace xy := xy.below b
      replace ky := ky.below b
      replace xp := xp.below b
      replace kp := kp.below b
      replace xl := xl.below b
      replace kl := kl.below b
      clear b
      by_cases hm : n = 16383
      · have hdm : ((n : Int) + 1 == 16384) = true := by rw [beq_iff_eq]; omega
        have hf := HE.out.fo1 (by omega)
        have HF := Lib.hid hf
        clear hf hm
        have cc0 := ko.cell
        have cc1 := kx.cell
        have cc2 := ky.cell
        have cc3 := kp.cell
        have cc4 := kl.cell
        go_wp2_with fail
        clear cc0 cc1 cc2 cc3 cc4
        refine (Add_any ⟨_, rfl, xx⟩ ⟨_, rfl, xl⟩ 16384 (by omega) HE.out.xl HE.out.ll).mono ?_
        rintro e w15 ⟨v_, rfl, j_, b⟩
        rw [HE.out.ff, if_pos rfl] at j_
        rw [HE.out.ff]
        replace hB := nextB hB b
        replace xo := xo.below b
        replace ko := ko.below b
        replace xx := xx.below b
        replace kx := kx.below b
        replace xy := xy.below b
        replace ky := ky.below b
        replace xp := xp.below b
        replace kp := kp.below b
        replace xl := xl.below b
        replace kl := kl.below b
        clear b
        obtain ⟨aof, qf, capf, rfl, xf⟩ := j_.slice
        clear j_
        obtain ⟨b, kf⟩ := pro1 w15 (.slice aof qf capf)
        obtain ⟨Rf, hRf⟩ : ∃ R, R = w15.heap.size := ⟨_, rfl⟩
        have cc0 := (ko.below b).cell
        have cc1 := (kx.below b).cell
        have cc2 := (ky.below b).cell
        have cc3 := (kp.below b).cell
        have cc4 := (kl.below b).cell
        have cc5 := kf.cell
        go_wp2_with fail
        obtain ⟨w16, hw⟩ : ∃ w_ : World, w_ = (w15.alloc (.cells #[.slice aof qf capf] 25)) := ⟨_, rfl⟩
        rw [← hw] at b kf ⊢
        rw [← hRf] at kf ⊢
        clear hw hRf cc0 cc1 cc2 cc3 cc4 cc5
        replace hB := nextB hB b
        replace xo := xo.below b
        replace ko := ko.below b
        replace xx := xx.below b
        replace kx := kx.below b
        replace xy := xy.below b
        replace ky := ky.below b
        replace xp := xp.below b
        replace kp := kp.below b
        replace xl := xl.below b
        replace kl := kl.below b
        replace xf := xf.below b
        clear b
        refine (Add_any ⟨_, rfl, xf⟩ ⟨_, rfl, xo⟩ 16384 (by omega) HE.out.fl HE.out.one).mono ?_
        rintro e w17 ⟨v_, rfl, j_, b⟩
        rw [HF.out]
        replace hB := nextB hB b
        replace xo := xo.below b
        replace ko := ko.below b
        replace xx := xx.below b
        replace kx := kx.below b
        replace xy := xy.below b
        replace ky := ky.below b
        replace xp := xp.below b
        replace kp := kp.below b
        replace xl := xl.below b
        replace kl := kl.below b
        replace xf := xf.below b
        replace kf := kf.below b
        clear b
        obtain ⟨aoz, qz, capz, rfl, xz⟩ := j_.slice
        clear j_
        obtain ⟨b, kz⟩ := pro1 w17 (.slice aoz qz capz)
        obtain ⟨Rz, hRz⟩ : ∃ R, R = w17.heap.size := ⟨_, rfl⟩
        have cc0 := (ko.below b).cell
        have cc1 := (kx.below b).cell
        have cc2 := (ky.below b).cell
        have cc3 := (kp.below b).cell
        have cc4 := (kl.below b).cell
        have cc5 := (kf.below b).cell
        have cc6 := kz.cell
        go_wp2_with fail
        obtain ⟨w18, hw⟩ : ∃ w_ : World, w_ = (w17.alloc (.cells #[.slice aoz qz capz] 25)) := ⟨_, rfl⟩
        rw [← hw] at b kz ⊢
        rw [← hRz] at kz ⊢
        clear hw hRz cc0 cc1 cc2 cc3 cc4 cc5 cc6
        replace hB := nextB hB b
        replace xo := xo.below b
        replace ko := ko.below b
        replace xx := xx.below b
        replace kx := kx.below b
        replace xy := xy.below b
        replace ky := ky.below b
        replace xp := xp.below b
        replace kp := kp.below b
        replace xl := xl.below b
        replace kl := kl.below b
        replace xf := xf.below b
        replace kf := kf.below b
        replace xz := xz.below b
        clear b
        refine (BitLen_any ⟨_, rfl, xf⟩ 16384 (by omega) HE.out.fl).mono ?_
        rintro e w19 ⟨rfl, b⟩
        rw [show ((blen (P2 n + (P2 n - 1)) : Nat) : Int) = (n : Int) + 1 by rw [HE.out.bf]; rfl]
        replace hB := nextB hB b
        replace xo := xo.below b
        replace ko := ko.below b
        replace xx := xx.below b
        replace kx := kx.below b
        replace xy := xy.below b
        replace ky := ky.below b
        replace xp := xp.below b
        replace kp := kp.below b
        replace xl := xl.below b
        replace kl := kl.below b
        replace xf := xf.below b
        replace kf := kf.below b
        replace xz := xz.below b
        replace kz := kz.below b
        clear b
        have cc0 := ko.cell
        have cc1 := kx.cell
        have cc2 := ky.cell
        have cc3 := kp.cell
        have cc4 := kl.cell
        have cc5 := kf.cell
        have cc6 := kz.cell
        go_wp2_with fail
        clear cc0 cc1 cc2 cc3 cc4 cc5 cc6
        refine (awake_any _).mono ?_
        rintro e w20 ⟨rfl, b⟩
        replace hB := nextB hB b
        replace xo := xo.below b
        replace ko := ko.below b
        replace xx := xx.below b
        replace kx := kx.below b
        replace xy := xy.below b
        replace ky := ky.below b
        replace xp := xp.below b
        replace kp := kp.below b
        replace xl := xl.below b
        replace kl := kl.below b
        replace xf := xf.below b
        replace kf := kf.below b
        replace xz := xz.below b
        replace kz := kz.below b
        clear b
        go_wp2
        go_ret
        exact ⟨rfl, hB⟩
      · have hdm : ((n : Int) + 1 == 16384) = false := by rw [beq_eq_false_iff_ne]; omega
        have hf := HE.out.fo2 (by have := HN.out; omega)
        have HF := Lib.hid hf
        clear hf hm
        have cc0 := ko.cell
        have cc1 := kx.cell
        have cc2 := ky.cell
        have cc3 := kp.cell
        have cc4 := kl.cell
        go_wp2_with fail
        clear cc0 cc1 cc2 cc3 cc4
        refine (Add_any ⟨_, rfl, xx⟩ ⟨_, rfl, xl⟩ 16384 (by omega) HE.out.xl HE.out.ll).mono ?_
        rintro e w15 ⟨v_, rfl, j_, b⟩
        rw [HE.out.ff, if_pos rfl] at j_
        rw [HE.out.ff]
        replace hB := nextB hB b
        replace xo := xo.below b
        replace ko := ko.below b
        replace xx := xx.below b
        replace kx := kx.below b
        replace xy := xy.below b
        replace ky := ky.below b
        replace xp := xp.below b
        replace kp := kp.below b
        replace xl := xl.below b
        replace kl := kl.below b
        clear b
        obtain ⟨aof, qf, capf, rfl, xf⟩ := j_.slice
        clear j_
        obtain ⟨b, kf⟩ := pro1 w15 (.slice aof qf capf)
        obtain ⟨Rf, hRf⟩ : ∃ R, R = w15.heap.size := ⟨_, rfl⟩
        have cc0 := (ko.below b).cell
        have cc1 := (kx.below b).cell
        have cc2 := (ky.below b).cell
        have cc3 := (kp.below b).cell
        have cc4 := (kl.below b).cell
        have cc5 := kf.cell
        go_wp2_with fail
        obtain ⟨w16, hw⟩ : ∃ w_ : World, w_ = (w15.alloc (.cells #[.slice aof qf capf] 25)) := ⟨_, rfl⟩
        rw [← hw] at b kf ⊢
        rw [← hRf] at kf ⊢
        clear hw hRf cc0 cc1 cc2 cc3 cc4 cc5
        replace hB := nextB hB b
        replace xo := xo.below b
        replace ko := ko.below b
        replace xx := xx.below b
        replace kx := kx.below b
        replace xy := xy.below b
        replace ky := ky.below b
        replace xp := xp.below b
        replace kp := kp.below b
        replace xl := xl.below b
        replace kl := kl.below b
        replace xf := xf.below b
        clear b
        refine (Add_any ⟨_, rfl, xf⟩ ⟨_, rfl, xo⟩ 16384 (by omega) HE.out.fl HE.out.one).mono ?_
        rintro e w17 ⟨v_, rfl, j_, b⟩
        rw [HF.out]
        replace hB := nextB hB b
        replace xo := xo.below b
        replace ko := ko.below b
        replace xx := xx.below b
        replace kx := kx.below b
        replace xy := xy.below b
        replace ky := ky.below b
        replace xp := xp.below b
        replace kp := kp.below b
        replace xl := xl.below b
        replace kl := kl.below b
        replace xf := xf.below b
        replace kf := kf.below b
        clear b
        obtain ⟨aoz, qz, capz, rfl, xz⟩ := j_.slice
        clear j_
        obtain ⟨b, kz⟩ := pro1 w17 (.slice aoz qz capz)
        obtain ⟨Rz, hRz⟩ : ∃ R, R = w17.heap.size := ⟨_, rfl⟩
        have cc0 := (ko.below b).cell
        have cc1 := (kx.below b).cell
        have cc2 := (ky.below b).cell
        have cc3 := (kp.below b).cell
        have cc4 := (kl.below b).cell
        have cc5 := (kf.below b).cell
        have cc6 := kz.cell
        go_wp2_with fail
        obtain ⟨w18, hw⟩ : ∃ w_ : World, w_ = (w17.alloc (.cells #[.slice aoz qz capz] 25)) := ⟨_, rfl⟩
        rw [← hw] at b kz ⊢
        rw [← hRz] at kz ⊢
        clear hw hRz cc0 cc1 cc2 cc3 cc4 cc5 cc6
        replace hB := nextB hB b
        replace xo := xo.below b
        replace ko := ko.below b
        replace xx := xx.below b
        replace kx := kx.below b
        replace xy := xy.below b
        replace ky := ky.below b
        replace xp := xp.below b
        replace kp := kp.below b
        replace xl := xl.below b
        replace kl := kl.below b
        replace xf := xf.below b
        replace kf := kf.below b
        replace xz := xz.below b
        clear b
        refine (BitLen_any ⟨_, rfl, xf⟩ 16384 (by omega) HE.out.fl).mono ?_
        rintro e w19 ⟨rfl, b⟩
        rw [show ((blen (P2 n + (P2 n - 1)) : Nat) : Int) = (n : Int) + 1 by rw [HE.out.bf]; rfl]
        replace hB := nextB hB b
        replace xo := xo.below b
        replace ko := ko.below b
        replace xx := xx.below b
        replace kx := kx.below b
        replace xy := xy.below b
        replace ky := ky.below b
        replace xp := xp.below b
        replace kp := kp.below b
        replace xl := xl.below b
        replace kl := kl.below b
        replace xf := xf.below b
        replace kf := kf.below b
        replace xz := xz.below b
        replace kz := kz.below b
        clear b
        have cc0 := ko.cell
        have cc1 := kx.cell
        have cc2 := ky.cell
        have cc3 := kp.cell
        have cc4 := kl.cell
        have cc5 := kf.cell
        have cc6 := kz.cell
        go_wp2_with fail
        clear cc0 cc1 cc2 cc3 cc4 cc5 cc6
        refine (awake_any _).mono ?_
        rintro e w20 ⟨rfl, b⟩
        replace hB := nextB hB b
        replace xo := xo.below b
        replace ko := ko.below b
        replace xx := xx.below b
        replace kx := kx.below b
        replace xy := xy.below b
        replace ky := ky.below b
        replace xp := xp.below b
        replace kp := kp.below b
        replace xl := xl.below b
        replace kl := kl.below b
        replace xf := xf.below b
        replace kf := kf.below b
        replace xz := xz.below b
        replace kz := kz.below b
        clear b
        go_wp2
        go_ret
        exact ⟨rfl, hB⟩
  · have hA := awake_any
    by_cases h1 : n < 0
    · go_wp2_with fail
      refine (awake_any _).mono ?_
      rintro e w1 ⟨rfl, b⟩
      go_wp2
      go_ret
      exact ⟨rfl, b⟩
    by_cases h2 : k < 0
    · go_wp2_with fail
      refine (awake_any _).mono ?_
      rintro e w1 ⟨rfl, b⟩
      go_wp2
      go_ret
      exact ⟨rfl, b⟩
    by_cases h3 : 16384 ≤ n
    · go_wp2_with fail
      refine (awake_any _).mono ?_
      rintro e w1 ⟨rfl, b⟩
      go_wp2
      go_ret
      exact ⟨rfl, b⟩
    by_cases h4 : 16384 ≤ k
    · go_wp2_with fail
      refine (awake_any _).mono ?_
      rintro e w1 ⟨rfl, b⟩
      go_wp2
      go_ret
      exact ⟨rfl, b⟩
    · omega

end Go.Proofs.Ytppbhjhbaknidaa
