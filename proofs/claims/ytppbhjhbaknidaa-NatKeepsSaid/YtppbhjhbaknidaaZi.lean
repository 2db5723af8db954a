/-
  The contract of the specification's Int. Condition: none. The walk of the law NatShifts. No condition. The walk of the law NatReads. No condition.
-/
import Derived.Test.YtppbhjhbaknidaaZh
set_option linter.unusedVariables false
set_option linter.unusedSimpArgs false

/-
  The contract of the specification's Int. Condition: none.
-/
set_option linter.unusedVariables false
set_option linter.unusedSimpArgs false
namespace Go.Proofs.Ytppbhjhbaknidaa
open Go.RowKit

set_option maxHeartbeats 1000000 in
set_option maxRecDepth 100000 in
theorem intR_any {w : World} {v : Value} {n : Nat} (ia : IsR w v n) :
    Calls Try.prog 76 #[v] w fun e w' => e = .returned (.tuple #[.int .i64 (intN n), .bool (intB n)]) ∧ w' = w := by
  have hbl : blen n ≤ 63 ↔ n < P2 63 := blen_le
  rw [I63_P2] at hbl
  by_cases h : n < I63
  · have hb := hbl.2 h
    have e1 : intN n = n := if_pos h
    have e2 : intB n = true := decide_eq_true h
    have E1 := Lib.hid e1
    have E2 := Lib.hid e2
    clear e1 e2 hbl
    obtain ⟨xs, ⟨ao, k, cap, b, off, rfl, hs⟩, hc, rfl⟩ := id ia
    have hl := hc.len_R (L := 63) (by rw [I63_P2]; exact h)
    rw [hs.len] at hl
    have hk2 : k ≤ 4 := by omega
    have HI := Lib.hid h
    clear h
    go_enter Try.func76, Try.ntmps76
    go_wp2_with fail
    refine (bitLenR_any ia).mono ?_
    rintro e wq ⟨rfl, rfl⟩
    go_wp2
    go_loop [4, 5] (fun x i => ∃ (j y : Nat), i = .int .i64 ((j : Int) - 1) ∧ x = .int .i64 y ∧ j ≤ k ∧ Hid (y = val 65536 (xs.drop j))) (fun _ i => (intOf i + 1).toNat)
    case atStart => exact ⟨k, 0, rfl, rfl, Nat.le_refl _, Lib.hid (by rw [List.drop_of_length_le (by rw [hs.len]; exact Nat.le_refl _)]; rfl)⟩
    case round =>
      obtain ⟨j, y, rfl, rfl, hj, hy⟩ := hrel
      by_cases hj0 : j = 0
      · subst hj0
        have HY : Hid (intN (val 65536 xs) = y) := Lib.hid (by rw [E1.out, hy.out, List.drop_zero])
        have hd0 : decide ((0 : Int) ≤ ((0 : Nat) : Int) - 1) = false := rfl
        go_wp2
        go_ret2
        exact ⟨by rw [HY.out, E2.out]; rfl, rfl⟩
      · obtain ⟨t, rfl⟩ : ∃ t, j = t + 1 := ⟨j - 1, by omega⟩
        rw [show ((t + 1 : Nat) : Int) - 1 = (t : Int) by omega]
        obtain rfl := hs.addr.resolve_right (by omega)
        have hc1 := hs.cells t (by omega)
        have hx := hc.1.nth (by omega) t
        have hyv : Hid (nth xs t + 65536 * y = val 65536 (xs.drop t)) := Lib.hid (by
          rw [hy.out, ← val_drop_cons _ (by rw [hs.len]; omega)])
        have hle : nth xs t + 65536 * y < 9223372036854775808 := by
          rw [hyv.out]
          have h1 := val_take_drop 65536 xs t (by rw [hs.len]; omega)
          have h2 : val 65536 (xs.drop t) ≤ val 65536 xs := by
            rw [h1]
            have := Nat.le_mul_of_pos_left (val 65536 (xs.drop t)) (Nat.pow_pos (n := t) (show 0 < 65536 by omega))
            omega
          have h3 : val 65536 xs < 9223372036854775808 := HI.out
          omega
        have hy32 : y ≤ 140737488355327 := by omega
        have W2 : IntKind.i64.wrap ((y : Int) * 65536 + (nth xs t : Int)) = (y : Int) * 65536 + (nth xs t : Int) := IntWalk.i64_in _ (by omega)
        have hle2 : (y : Int) * 65536 + (nth xs t : Int) ≤ 9223372036854775807 := by omega
        generalize nth xs t = x at *
        clear hle hj0
        go_wp2
        go_round
        case rel => exact ⟨t, x + 65536 * y, rfl, by refine congrArg _ ?_; omega, by omega, hyv⟩
        case measure => simp [intOf]
  · have e1 : intN n = 0 := if_neg h
    have e2 : intB n = false := decide_eq_false h
    have E1 := Lib.hid e1
    have E2 := Lib.hid e2
    have hb : ¬ blen n ≤ 63 := fun hc => h (hbl.1 hc)
    clear e1 e2 hbl h
    go_enter Try.func76, Try.ntmps76
    go_wp2_with fail
    refine (bitLenR_any ia).mono ?_
    rintro e wq ⟨rfl, rfl⟩
    go_wp2
    go_ret2
    exact ⟨by rw [E1.out, E2.out]; rfl, rfl⟩

end Go.Proofs.Ytppbhjhbaknidaa

/-
  The walk of the law NatShifts. No condition.
-/
set_option linter.unusedVariables false
set_option linter.unusedSimpArgs false
namespace Go.Proofs.Ytppbhjhbaknidaa
open Go.RowKit

theorem fitE_shl {c n : Nat} (hc : c ≠ 0) (h : 16384 < n + blen c) : fitE (c * P2 n) = 3 := by
  refine if_neg fun hlt => ?_
  have h1 : P2 (blen c - 1) ≤ c := by
    refine Nat.le_of_not_lt fun hh => ?_
    have := blen_le.2 hh
    have h0 : blen c ≠ 0 := fun h0 => by
      have := blen_le.1 (Nat.le_of_eq h0)
      unfold P2 at this
      omega
    omega
  have h2 : P2 (blen c - 1) * P2 n ≤ c * P2 n := Nat.mul_le_mul_right _ h1
  rw [← P2_add] at h2
  have h0 : blen c ≠ 0 := fun h0 => by
    have := blen_le.1 (Nat.le_of_eq h0)
    unfold P2 at this
    omega
  have h3 : P2 16384 ≤ P2 (blen c - 1 + n) := P2_mono (by omega)
  omega
theorem fitE_shl0 {c n : Nat} (h : n + blen c ≤ 16384) : fitE (c * P2 n) = 0 ∧ c * P2 n < P2 16384 := by
  have h1 : c * P2 n < P2 (blen c + n) := by rw [P2_add]; exact Nat.mul_lt_mul_of_pos_right lt_blen (P2_pos n)
  have h2 := lt_P2_mono h1 (show blen c + n ≤ 16384 by omega)
  exact ⟨if_pos h2, h2⟩

set_option maxHeartbeats 16000000 in
set_option maxRecDepth 100000 in
theorem NatShifts_walk (va : Value) (n : Int) (w : World) (ia : In16 w va) (hnr : -9223372036854775808 ≤ n ∧ n ≤ 9223372036854775807) :
    Calls Try.prog 17 #[va, .int .i64 n] w (RetB w true) := by
  have hB := Below.refl w.heap.size w
  have hfl : ∀ x, fitE x < 1000 := fun x => by unfold fitE; split <;> omega
  have HFL := Lib.hid hfl
  clear hfl
  go_enter Try.func17, Try.ntmps17
  go_wp2_with fail
  refine (raw_any ia 1024 (by omega)).mono ?_
  rintro e w1 ⟨c, hc, rc, rfl, icr, b⟩
  replace hB := nextB hB b
  replace ia := ia.below b
  clear b
  have Hc := Lib.hid hc
  clear hc
  have Hc := Lib.hid (lt_P2_mono Hc.out (show 16 * 1024 ≤ 16384 by omega))
  go_wp2_with fail
  refine (made_any icr Hc.out).mono ?_
  rintro e w2 ⟨v_, rfl, j_, b⟩
  obtain ⟨aox, qx, capx, rfl, xx⟩ := j_.slice
  clear j_
  replace hB := nextB hB b
  replace ia := ia.below b
  replace icr := icr.below b
  clear b
  obtain ⟨b, kx⟩ := pro1 w2 (.slice aox qx capx)
  obtain ⟨Rx, hRx⟩ : ∃ R, R = w2.heap.size := ⟨_, rfl⟩
  have cc0 := kx.cell
  go_wp2_with fail
  obtain ⟨w3, hw⟩ : ∃ w_ : World, w_ = (w2.alloc (.cells #[.slice aox qx capx] 25)) := ⟨_, rfl⟩
  rw [← hw] at b kx ⊢
  rw [← hRx] at kx ⊢
  clear hw hRx cc0
  replace hB := nextB hB b
  replace ia := ia.below b
  replace icr := icr.below b
  replace xx := xx.below b
  clear b
  by_cases hn0 : n < 0
  · refine (Lsh_neg ⟨_, rfl, xx⟩ n hn0).mono ?_
    rintro e w4 ⟨v_, rfl, j_, b⟩
    rw [if_neg (by omega)] at j_
    replace hB := nextB hB b
    replace ia := ia.below b
    replace icr := icr.below b
    replace xx := xx.below b
    replace kx := kx.below b
    clear b
    obtain ⟨aoy, qy, capy, rfl, xy⟩ := j_.slice
    clear j_
    obtain ⟨b, ky⟩ := pro1 w4 (.slice aoy qy capy)
    obtain ⟨Ry, hRy⟩ : ∃ R, R = w4.heap.size := ⟨_, rfl⟩
    have cc0 := (kx.below b).cell
    have cc1 := ky.cell
    go_wp2_with fail
    obtain ⟨w5, hw⟩ : ∃ w_ : World, w_ = (w4.alloc (.cells #[.slice aoy qy capy] 25)) := ⟨_, rfl⟩
    rw [← hw] at b ky ⊢
    rw [← hRy] at ky ⊢
    clear hw hRy cc0 cc1
    replace hB := nextB hB b
    replace ia := ia.below b
    replace icr := icr.below b
    replace xx := xx.below b
    replace kx := kx.below b
    replace xy := xy.below b
    clear b
    refine (Rsh_neg ⟨_, rfl, xx⟩ n hn0).mono ?_
    rintro e w6 ⟨v_, rfl, j_, b⟩
    rw [if_neg (by omega)] at j_
    replace hB := nextB hB b
    replace ia := ia.below b
    replace icr := icr.below b
    replace xx := xx.below b
    replace kx := kx.below b
    replace xy := xy.below b
    replace ky := ky.below b
    clear b
    obtain ⟨aoz, qz, capz, rfl, xz⟩ := j_.slice
    clear j_
    obtain ⟨b, kz⟩ := pro1 w6 (.slice aoz qz capz)
    obtain ⟨Rz, hRz⟩ : ∃ R, R = w6.heap.size := ⟨_, rfl⟩
    have cc0 := (kx.below b).cell
    have cc1 := (ky.below b).cell
    have cc2 := kz.cell
    go_wp2_with fail
    obtain ⟨w7, hw⟩ : ∃ w_ : World, w_ = (w6.alloc (.cells #[.slice aoz qz capz] 25)) := ⟨_, rfl⟩
    rw [← hw] at b kz ⊢
    rw [← hRz] at kz ⊢
    clear hw hRz cc0 cc1 cc2
    replace hB := nextB hB b
    replace ia := ia.below b
    replace icr := icr.below b
    replace xx := xx.below b
    replace kx := kx.below b
    replace xy := xy.below b
    replace ky := ky.below b
    replace xz := xz.below b
    clear b
    refine (told_err (er := 2) ⟨_, rfl, xy⟩ (by omega) (by omega) ⟨_, _, _, rfl⟩).mono ?_
    rintro e w8 ⟨rfl, b⟩
    replace hB := nextB hB b
    replace ia := ia.below b
    replace icr := icr.below b
    replace xx := xx.below b
    replace kx := kx.below b
    replace xy := xy.below b
    replace ky := ky.below b
    replace xz := xz.below b
    replace kz := kz.below b
    clear b
    have cc0 := kx.cell
    have cc1 := ky.cell
    have cc2 := kz.cell
    go_wp2_with fail
    clear cc0 cc1 cc2
    refine (told_err (er := 2) ⟨_, rfl, xz⟩ (by omega) (by omega) ⟨_, _, _, rfl⟩).mono ?_
    rintro e w9 ⟨rfl, b⟩
    replace hB := nextB hB b
    replace ia := ia.below b
    replace icr := icr.below b
    replace xx := xx.below b
    replace kx := kx.below b
    replace xy := xy.below b
    replace ky := ky.below b
    replace xz := xz.below b
    replace kz := kz.below b
    clear b
    have cc0 := kx.cell
    have cc1 := ky.cell
    have cc2 := kz.cell
    go_wp2_with fail
    clear cc0 cc1 cc2
    refine (awake_any _).mono ?_
    rintro e w10 ⟨rfl, b⟩
    replace hB := nextB hB b
    replace ia := ia.below b
    replace icr := icr.below b
    replace xx := xx.below b
    replace kx := kx.below b
    replace xy := xy.below b
    replace ky := ky.below b
    replace xz := xz.below b
    replace kz := kz.below b
    clear b
    go_wp2
    go_ret
    exact ⟨rfl, hB⟩
  · obtain ⟨n, rfl⟩ := Int.eq_ofNat_of_zero_le (show 0 ≤ n by omega)
    have hn : n < 9223372036854775808 := by omega
    have hd0 : decide ((n : Int) < 0) = false := decide_eq_false hn0
    clear hn0
    have HL1 := Lib.hid (fun w_ v_ (h : IsNat w_ v_ c) => Lsh_any h n hn 16384 (by omega) Hc.out)
    have HR1 := Lib.hid (fun w_ v_ (h : IsNat w_ v_ c) => Rsh_any h n hn Hc.out)
    have HR2 := Lib.hid (fun w_ v_ (h : IsR w_ v_ c) => shrR_any h n hn 16384 (by omega) Hc.out)
    have HDV := Lib.hid (Nat.lt_of_le_of_lt (Nat.div_le_self c (P2 n)) Hc.out)
    have HE := Lib.hid (HFL.out (c * P2 n))
    have HNB := Lib.hid hn
    clear hn hnr
    refine (HL1.out _ _ ⟨_, rfl, xx⟩).mono ?_
    rintro e w4 ⟨v_, rfl, j_, b⟩
    generalize he : fitE (c * P2 n) = er at *
    have HER := Lib.hid he
    clear he
    replace hB := nextB hB b
    replace ia := ia.below b
    replace icr := icr.below b
    replace xx := xx.below b
    replace kx := kx.below b
    clear b
    obtain ⟨aoy, qy, capy, rfl, xy⟩ := j_.slice
    clear j_
    obtain ⟨b, ky⟩ := pro1 w4 (.slice aoy qy capy)
    obtain ⟨Ry, hRy⟩ : ∃ R, R = w4.heap.size := ⟨_, rfl⟩
    have cc0 := (kx.below b).cell
    have cc1 := ky.cell
    go_wp2_with fail
    obtain ⟨w5, hw⟩ : ∃ w_ : World, w_ = (w4.alloc (.cells #[.slice aoy qy capy] 25)) := ⟨_, rfl⟩
    rw [← hw] at b ky ⊢
    rw [← hRy] at ky ⊢
    clear hw hRy cc0 cc1
    replace hB := nextB hB b
    replace ia := ia.below b
    replace icr := icr.below b
    replace xx := xx.below b
    replace kx := kx.below b
    replace xy := xy.below b
    clear b
    refine (HR1.out _ _ ⟨_, rfl, xx⟩).mono ?_
    rintro e w6 ⟨v_, rfl, j_, b⟩
    rw [if_pos rfl] at j_
    replace hB := nextB hB b
    replace ia := ia.below b
    replace icr := icr.below b
    replace xx := xx.below b
    replace kx := kx.below b
    replace xy := xy.below b
    replace ky := ky.below b
    clear b
    obtain ⟨aoz, qz, capz, rfl, xz⟩ := j_.slice
    clear j_
    obtain ⟨b, kz⟩ := pro1 w6 (.slice aoz qz capz)
    obtain ⟨Rz, hRz⟩ : ∃ R, R = w6.heap.size := ⟨_, rfl⟩
    have cc0 := (kx.below b).cell
    have cc1 := (ky.below b).cell
    have cc2 := kz.cell
    go_wp2_with fail
    obtain ⟨w7, hw⟩ : ∃ w_ : World, w_ = (w6.alloc (.cells #[.slice aoz qz capz] 25)) := ⟨_, rfl⟩
    rw [← hw] at b kz ⊢
    rw [← hRz] at kz ⊢
    clear hw hRz cc0 cc1 cc2
    replace hB := nextB hB b
    replace ia := ia.below b
    replace icr := icr.below b
    replace xx := xx.below b
    replace kx := kx.below b
    replace xy := xy.below b
    replace ky := ky.below b
    replace xz := xz.below b
    clear b
    obtain ⟨wo, hwo⟩ : ∃ wo : World, wo = w7 := ⟨_, rfl⟩
    rw [← hwo] at hB ia icr xx kx xy ky xz kz ⊢
    clear hwo
    have cc0 := kx.cell
    have cc1 := ky.cell
    have cc2 := kz.cell
    have ltx := kx.lt
    have lty := ky.lt
    have ltz := kz.lt
    go_wp2
    go_region_held3 (fun w' => w'.cell? ⟨Rx, 0, none⟩ = some (.slice aox qx capx) ∧ w'.cell? ⟨Ry, 0, none⟩ = some (.slice aoy qy capy) ∧ w'.cell? ⟨Rz, 0, none⟩ = some (.slice aoz qz capz) ∧ Below wo.heap.size wo w')
      (first
        | exact ⟨cc0, cc1, cc2, (Below.refl _ _).drew⟩
        | (go_split_ands; exact ⟨by assumption, by assumption, by assumption, by assumption⟩)
        | (go_split_ands; have hk := nextB (by assumption) bb; exact ⟨(hk.cell (p := ⟨Rx, 0, none⟩) ltx).trans cc0, (hk.cell (p := ⟨Ry, 0, none⟩) lty).trans cc1, (hk.cell (p := ⟨Rz, 0, none⟩) ltz).trans cc2, hk⟩))
      (first
        | (go_at_call 74; go_split_ands; refine (HR2.out _ _ (icr.below (by assumption))).mono ?_; rintro e wq ⟨vr, rfl, ir, bb⟩)
        | (go_at_call 34; go_split_ands; refine (told_ok ⟨_, rfl, xz.below (by assumption)⟩ (by assumption) 16384 (by omega) HDV.out).mono ?_; rintro e wq ⟨rfl, bb⟩))
    go_split_ands
    have b : Below wo.heap.size wo wq := by assumption
    obtain ⟨w8, hw⟩ : ∃ w_ : World, w_ = wq := ⟨_, rfl⟩
    rw [← hw] at b ⊢
    clear hw
    replace hB := nextB hB b
    replace ia := ia.below b
    replace icr := icr.below b
    replace xx := xx.below b
    replace kx := kx.below b
    replace xy := xy.below b
    replace ky := ky.below b
    replace xz := xz.below b
    replace kz := kz.below b
    clear b
    obtain ⟨aoc, qc, capc, rfl, hqc, -⟩ := icr.slice
    by_cases hc0 : c = 0
    · obtain rfl := hqc.2 hc0
      subst hc0
      have e0 : er = 0 := by rw [← HER.out, Nat.zero_mul, fitE_zero]
      subst e0
      rw [if_pos rfl, Nat.zero_mul] at xy
      clear hqc
      have cc0 := kx.cell
      have cc1 := ky.cell
      have cc2 := kz.cell
      go_wp2_with fail
      clear cc0 cc1 cc2
      refine (told_ok ⟨_, rfl, xy⟩ (IsR.zero _) 16384 (by omega) (P2_pos _)).mono ?_
      rintro e w9 ⟨rfl, b⟩
      replace hB := nextB hB b
      replace ia := ia.below b
      replace icr := icr.below b
      replace xx := xx.below b
      replace kx := kx.below b
      replace xy := xy.below b
      replace ky := ky.below b
      replace xz := xz.below b
      replace kz := kz.below b
      clear b
      have cc0 := kx.cell
      have cc1 := ky.cell
      have cc2 := kz.cell
      go_wp2_with fail
      clear cc0 cc1 cc2
      refine (awake_any _).mono ?_
      rintro e w10 ⟨rfl, b⟩
      replace hB := nextB hB b
      replace ia := ia.below b
      replace icr := icr.below b
      replace xx := xx.below b
      replace kx := kx.below b
      replace xy := xy.below b
      replace ky := ky.below b
      replace xz := xz.below b
      replace kz := kz.below b
      clear b
      go_wp2
      go_ret
      exact ⟨rfl, hB⟩
    · have hqc0 : ((qc : Int) == 0) = false := by rw [beq_eq_false_iff_ne]; intro hh; exact hc0 (hqc.1 (by omega))
      clear hqc
      have hblc : 16384 < n + blen c → er = 3 := fun h => by rw [← HER.out]; exact fitE_shl hc0 h
      have hblc2 : n + blen c ≤ 16384 → er = 0 ∧ c * P2 n < P2 16384 := fun h => by rw [← HER.out]; exact fitE_shl0 h
      have hbL : blen c ≤ 16384 := blen_le.2 Hc.out
      have HX := Lib.hid hblc
      have HY := Lib.hid hblc2
      clear hblc hblc2
      by_cases hb1 : 16384 < n
      · have e3 := HX.out (by omega)
        subst e3
        rw [if_neg (by omega)] at xy
        have cc0 := kx.cell
        have cc1 := ky.cell
        have cc2 := kz.cell
        go_wp2_with fail
        clear cc0 cc1 cc2
        refine (told_err (er := 3) ⟨_, rfl, xy⟩ (by omega) (by omega) ⟨_, _, _, rfl⟩).mono ?_
        rintro e w9 ⟨rfl, b⟩
        replace hB := nextB hB b
        replace ia := ia.below b
        replace icr := icr.below b
        replace xx := xx.below b
        replace kx := kx.below b
        replace xy := xy.below b
        replace ky := ky.below b
        replace xz := xz.below b
        replace kz := kz.below b
        clear b
        have cc0 := kx.cell
        have cc1 := ky.cell
        have cc2 := kz.cell
        go_wp2_with fail
        clear cc0 cc1 cc2
        refine (awake_any _).mono ?_
        rintro e w10 ⟨rfl, b⟩
        replace hB := nextB hB b
        replace ia := ia.below b
        replace icr := icr.below b
        replace xx := xx.below b
        replace kx := kx.below b
        replace xy := xy.below b
        replace ky := ky.below b
        replace xz := xz.below b
        replace kz := kz.below b
        clear b
        go_wp2
        go_ret
        exact ⟨rfl, hB⟩
      · have hn16 : n ≤ 16384 := by omega
        have cc0 := kx.cell
        have cc1 := ky.cell
        have cc2 := kz.cell
        go_wp2_with fail
        clear cc0 cc1 cc2
        refine (bitLenR_any icr).mono ?_
        rintro e w9 ⟨rfl, hw⟩
        subst hw
        by_cases hb2 : 16384 < n + blen c
        · have e3 := HX.out hb2
          subst e3
          rw [if_neg (by omega)] at xy
          have hd2 : decide ((16384 : Int) < (n : Int) + (blen c : Int)) = true := decide_eq_true (by omega)
          have cc0 := kx.cell
          have cc1 := ky.cell
          have cc2 := kz.cell
          go_wp2_with fail
          clear cc0 cc1 cc2
          refine (told_err (er := 3) ⟨_, rfl, xy⟩ (by omega) (by omega) ⟨_, _, _, rfl⟩).mono ?_
          rintro e w10 ⟨rfl, b⟩
          replace hB := nextB hB b
          replace ia := ia.below b
          replace icr := icr.below b
          replace xx := xx.below b
          replace kx := kx.below b
          replace xy := xy.below b
          replace ky := ky.below b
          replace xz := xz.below b
          replace kz := kz.below b
          clear b
          have cc0 := kx.cell
          have cc1 := ky.cell
          have cc2 := kz.cell
          go_wp2_with fail
          clear cc0 cc1 cc2
          refine (awake_any _).mono ?_
          rintro e w11 ⟨rfl, b⟩
          replace hB := nextB hB b
          replace ia := ia.below b
          replace icr := icr.below b
          replace xx := xx.below b
          replace kx := kx.below b
          replace xy := xy.below b
          replace ky := ky.below b
          replace xz := xz.below b
          replace kz := kz.below b
          clear b
          go_wp2
          go_ret
          exact ⟨rfl, hB⟩
        · obtain ⟨e3, hcl⟩ := HY.out (by omega)
          subst e3
          rw [if_pos rfl] at xy
          have HCL := Lib.hid hcl
          clear hcl
          have hd2 : decide ((16384 : Int) < (n : Int) + (blen c : Int)) = false := decide_eq_false (by omega)
          have HSL := Lib.hid (fun w_ v_ (h : IsR w_ v_ c) => shlR_any h n (by omega) 16384 (by omega) Hc.out)
          obtain ⟨wo, hwo⟩ : ∃ wo : World, wo = w9 := ⟨_, rfl⟩
          rw [← hwo] at hB ia icr xx kx xy ky xz kz ⊢
          clear hwo
          have cc0 := kx.cell
          have cc1 := ky.cell
          have cc2 := kz.cell
          have ltx := kx.lt
          have lty := ky.lt
          have ltz := kz.lt
          go_wp2
          go_region_held3 (fun w' => w'.cell? ⟨Rx, 0, none⟩ = some (.slice aox qx capx) ∧ w'.cell? ⟨Ry, 0, none⟩ = some (.slice aoy qy capy) ∧ w'.cell? ⟨Rz, 0, none⟩ = some (.slice aoz qz capz) ∧ Below wo.heap.size wo w')
            (first
              | exact ⟨cc0, cc1, cc2, (Below.refl _ _).drew⟩
              | (go_split_ands; exact ⟨by assumption, by assumption, by assumption, by assumption⟩)
              | (go_split_ands; have hk := nextB (by assumption) bb; exact ⟨(hk.cell (p := ⟨Rx, 0, none⟩) ltx).trans cc0, (hk.cell (p := ⟨Ry, 0, none⟩) lty).trans cc1, (hk.cell (p := ⟨Rz, 0, none⟩) ltz).trans cc2, hk⟩))
            (first
              | (go_at_call 75; go_split_ands; refine (HSL.out _ _ (icr.below (by assumption))).mono ?_; rintro e wq ⟨vr, rfl, ir, bb⟩)
              | (go_at_call 34; go_split_ands; refine (told_ok ⟨_, rfl, xy.below (by assumption)⟩ (by assumption) 16384 (by omega) HCL.out).mono ?_; rintro e wq ⟨rfl, bb⟩)
              | (go_at_call 31; go_split_ands; refine (awake_any _).mono ?_; rintro e wq ⟨rfl, bb⟩))
          go_split_ands
          have hC := nextB hB (by assumption)
          go_wp2
          go_ret
          exact ⟨rfl, hC⟩

end Go.Proofs.Ytppbhjhbaknidaa

/-
  The walk of the law NatReads. No condition.
-/
set_option linter.unusedVariables false
set_option linter.unusedSimpArgs false
namespace Go.Proofs.Ytppbhjhbaknidaa
open Go.RowKit

set_option maxHeartbeats 400000 in
theorem Bit_neg {w : World} {v : Value} {n : Nat} (ha : IsNat w v n) (i : Int) (hi : i < 0) :
    Calls Try.prog 78 #[v, .int .i64 i] w (RetI w 0) := by
  obtain ⟨ao, k, cap, rfl, ia⟩ := ha.slice
  obtain ⟨hB, ka⟩ := pro1 w (.slice ao k cap)
  go_enter Try.func78, Try.ntmps78
  go_wp2
  go_ret
  exact ⟨rfl, hB⟩

set_option maxHeartbeats 400000 in
theorem bitR_neg {w : World} {v : Value} {n : Nat} (ha : IsR w v n) (i : Int) (hi : i < 0) :
    Calls Try.prog 79 #[v, .int .i64 i] w fun e w' => e = .returned (.int .i64 0) ∧ w' = w := by
  obtain ⟨ao, k, cap, rfl, -, -⟩ := ha.slice
  go_enter Try.func79, Try.ntmps79
  go_wp2
  go_ret
  exact ⟨rfl, rfl⟩

set_option maxHeartbeats 16000000 in
set_option maxRecDepth 100000 in
theorem NatReads_walk (va : Value) (n : Int) (w : World) (ia : In16 w va) (hnr : -9223372036854775808 ≤ n ∧ n ≤ 9223372036854775807) :
    Calls Try.prog 18 #[va, .int .i64 n] w (RetB w true) := by
  have hB := Below.refl w.heap.size w
  go_enter Try.func18, Try.ntmps18
  go_wp2_with fail
  refine (raw_any ia 1024 (by omega)).mono ?_
  rintro e w1 ⟨c, hc, rc, rfl, icr, b⟩
  replace hB := nextB hB b
  replace ia := ia.below b
  clear b
  have Hc := Lib.hid hc
  clear hc
  have Hc := Lib.hid (lt_P2_mono Hc.out (show 16 * 1024 ≤ 16384 by omega))
  go_wp2_with fail
  refine (made_any icr Hc.out).mono ?_
  rintro e w2 ⟨v_, rfl, j_, b⟩
  obtain ⟨aox, qx, capx, rfl, xx⟩ := j_.slice
  clear j_
  replace hB := nextB hB b
  replace ia := ia.below b
  replace icr := icr.below b
  clear b
  obtain ⟨b, kx⟩ := pro1 w2 (.slice aox qx capx)
  obtain ⟨Rx, hRx⟩ : ∃ R, R = w2.heap.size := ⟨_, rfl⟩
  have cc0 := kx.cell
  go_wp2_with fail
  obtain ⟨w3, hw⟩ : ∃ w_ : World, w_ = (w2.alloc (.cells #[.slice aox qx capx] 25)) := ⟨_, rfl⟩
  rw [← hw] at b kx ⊢
  rw [← hRx] at kx ⊢
  clear hw hRx cc0
  replace hB := nextB hB b
  replace ia := ia.below b
  replace icr := icr.below b
  replace xx := xx.below b
  clear b
  refine (intR_any icr).mono ?_
  rintro e w4 ⟨rfl, hw⟩
  subst hw
  have cc0 := kx.cell
  go_wp2_with fail
  clear cc0
  refine (Int_any ⟨_, rfl, xx⟩ 16384 (by omega) Hc.out).mono ?_
  rintro e w5 ⟨rfl, b⟩
  replace hB := nextB hB b
  replace ia := ia.below b
  replace icr := icr.below b
  replace xx := xx.below b
  replace kx := kx.below b
  clear b
  generalize intN c = ic at *
  generalize intB c = bc at *
  have cc0 := kx.cell
  go_wp2_with fail
  clear cc0
  refine (String_any ⟨_, rfl, xx⟩ 16384 (by omega) Hc.out).mono ?_
  rintro e w6 ⟨rfl, b⟩
  replace hB := nextB hB b
  replace ia := ia.below b
  replace icr := icr.below b
  replace xx := xx.below b
  replace kx := kx.below b
  clear b
  have cc0 := kx.cell
  go_wp2_with fail
  clear cc0
  refine (textR_any icr 16384 (by omega) Hc.out).mono ?_
  rintro e w7 ⟨rfl, b⟩
  replace hB := nextB hB b
  replace ia := ia.below b
  replace icr := icr.below b
  replace xx := xx.below b
  replace kx := kx.below b
  clear b
  have cc0 := kx.cell
  go_wp2_with fail
  clear cc0
  refine (BitLen_any ⟨_, rfl, xx⟩ 16384 (by omega) Hc.out).mono ?_
  rintro e w8 ⟨rfl, b⟩
  replace hB := nextB hB b
  replace ia := ia.below b
  replace icr := icr.below b
  replace xx := xx.below b
  replace kx := kx.below b
  clear b
  have cc0 := kx.cell
  go_wp2_with fail
  clear cc0
  refine (bitLenR_any icr).mono ?_
  rintro e w9 ⟨rfl, hw⟩
  subst hw
  by_cases hn0 : n < 0
  · have cc0 := kx.cell
    go_wp2_with fail
    clear cc0
    refine (Bit_neg ⟨_, rfl, xx⟩ n hn0).mono ?_
    rintro e w10 ⟨rfl, b⟩
    replace hB := nextB hB b
    replace ia := ia.below b
    replace icr := icr.below b
    replace xx := xx.below b
    replace kx := kx.below b
    clear b
    have cc0 := kx.cell
    go_wp2_with fail
    clear cc0
    refine (bitR_neg icr n hn0).mono ?_
    rintro e w11 ⟨rfl, hw⟩
    subst hw
    have cc0 := kx.cell
    go_wp2_with fail
    clear cc0
    refine (awake_any _).mono ?_
    rintro e w12 ⟨rfl, b⟩
    replace hB := nextB hB b
    replace ia := ia.below b
    replace icr := icr.below b
    replace xx := xx.below b
    replace kx := kx.below b
    clear b
    go_wp2
    go_ret
    exact ⟨rfl, hB⟩
  · obtain ⟨n, rfl⟩ := Int.eq_ofNat_of_zero_le (show 0 ≤ n by omega)
    have hn : n < 9223372036854775808 := by omega
    have HBT := Lib.hid (fun w_ v_ (h : IsNat w_ v_ c) => Bit_any h n hn 16384 (by omega) Hc.out)
    have HBR := Lib.hid (fun w_ v_ (h : IsR w_ v_ c) => bitR_any h n hn 16384 (by omega) Hc.out)
    clear hn hnr hn0
    have cc0 := kx.cell
    go_wp2_with fail
    clear cc0
    refine (HBT.out _ _ ⟨_, rfl, xx⟩).mono ?_
    rintro e w10 ⟨rfl, b⟩
    replace hB := nextB hB b
    replace ia := ia.below b
    replace icr := icr.below b
    replace xx := xx.below b
    replace kx := kx.below b
    clear b
    have cc0 := kx.cell
    go_wp2_with fail
    clear cc0
    refine ((HBR.out _ _ icr).mono (fun e w_ ⟨h1, k_, h2⟩ => (⟨h1, by rw [h2]; exact below_drew0 _ _⟩ : e = _ ∧ Below _ _ w_))).mono ?_
    rintro e w11 ⟨rfl, b⟩
    replace hB := nextB hB b
    replace ia := ia.below b
    replace icr := icr.below b
    replace xx := xx.below b
    replace kx := kx.below b
    clear b
    have cc0 := kx.cell
    go_wp2_with fail
    clear cc0
    refine (awake_any _).mono ?_
    rintro e w12 ⟨rfl, b⟩
    replace hB := nextB hB b
    replace ia := ia.below b
    replace icr := icr.below b
    replace xx := xx.below b
    replace kx := kx.below b
    clear b
    go_wp2
    go_ret
    exact ⟨rfl, hB⟩

end Go.Proofs.Ytppbhjhbaknidaa
