/-
  The contract of the program's PowMod. Condition: numbers of at most 2^14 bits. The contract of the specification's PowMod. Condition: numbers of at most 2^14 bits. The walks of the laws NatPowMods and NatExponents. No condition.
-/
import Derived.Test.YtppbhjhbaknidaaZk
set_option linter.unusedVariables false
set_option linter.unusedSimpArgs false

/-
  The contract of the program's PowMod. Condition: numbers of at most 2^14 bits.
-/
set_option linter.unusedVariables false
set_option linter.unusedSimpArgs false
namespace Go.Proofs.Ytppbhjhbaknidaa
open Go.RowKit

structure PmSt (a e m s : Nat) : Prop where
  n0 : e / 2 ^ s % 2 = 0 → (a ^ (e / 2 ^ (s + 1)) % m * (a ^ (e / 2 ^ (s + 1)) % m)) % m = a ^ (e / 2 ^ s) % m
  n1 : e / 2 ^ s % 2 ≠ 0 → ((a ^ (e / 2 ^ (s + 1)) % m * (a ^ (e / 2 ^ (s + 1)) % m)) % m * (a % m)) % m = a ^ (e / 2 ^ s) % m
theorem pmSt (a e m s : Nat) : PmSt a e m s := by
  refine ⟨fun h => ?_, fun h => ?_⟩
  · rw [powmod_step, pow_even (a := a) h]
  · rw [powmod_step, ← Nat.mul_mod, ← Nat.pow_succ, Nat.succ_eq_add_one, pow_odd (by omega)]

set_option maxHeartbeats 400000 in
theorem PowMod_zero {w : World} {va ve vm : Value} {a e0 : Nat} (ha : IsNat w va a) (he : IsNat w ve e0) (hm : IsNat w vm 0) :
    Calls Try.prog 80 #[va, ve, vm] w (RetE w 0 11) := by
  obtain ⟨ao, k, cap, rfl, ia⟩ := ha.slice
  obtain ⟨ao2, k2, cap2, rfl, ib⟩ := he.slice
  obtain ⟨ao3, k3, cap3, rfl, ic, hk, -⟩ := hm.len
  obtain rfl := hk.2 rfl
  clear ha he hm hk
  obtain ⟨hB, ka, kb, kc, kr⟩ := pro4 w (.slice ao k cap) (.slice ao2 k2 cap2) (.slice ao3 0 cap3) (.slice none 0 0)
  go_enter Try.func80, Try.ntmps80
  go_wp2
  refine bodyPost_ret (v := .tuple #[.agg #[.slice none 0 0], .int .i64 (11 : Nat)]) (by simp [results, Try.results80, go_sem]) rfl ⟨_, rfl, IsNat.zero _, hB⟩

set_option maxHeartbeats 2000000 in
set_option maxRecDepth 100000 in
theorem PowMod_any {w : World} {va ve vm : Value} {a e0 m : Nat} (ha : IsNat w va a) (he : IsNat w ve e0) (hm : IsNat w vm m) (hm0 : 0 < m) (L : Nat) (hL : L ≤ 16384) (hal : a < P2 L) (hel : e0 < P2 L) (hml : m < P2 L) :
    Calls Try.prog 80 #[va, ve, vm] w (RetE w (a ^ e0 % m) 0) := by
  obtain ⟨ao, k, cap, rfl, ia⟩ := ha.slice
  obtain ⟨ao2, k2, cap2, rfl, ib⟩ := he.slice
  obtain ⟨ao3, k3, cap3, rfl, ic, hk, -⟩ := hm.len
  have hd : ((k3 : Int) == 0) = false := by
    rw [beq_eq_false_iff_ne]; intro hc; have := hk.1 (by omega); omega
  clear ha he hm hk
  obtain ⟨hB, ka, kb, kc, kr⟩ := pro4 w (.slice ao k cap) (.slice ao2 k2 cap2) (.slice ao3 k3 cap3) (.slice none 0 0)
  have ia := ia.below hB
  have ib := ib.below hB
  have ic := ic.below hB
  have HA := Lib.hid hal
  have HE := Lib.hid hel
  have HM := Lib.hid hml
  have HM0 := Lib.hid hm0
  have HMod := Lib.hid (fun x => Nat.mod_lt x hm0)
  have HB1 := Lib.hid (blen_le.2 hel)
  have c0 := kc.cell
  clear hal hel hml hm0
  go_enter Try.func80, Try.ntmps80
  go_wp2_with fail
  clear c0
  obtain ⟨wo, hw⟩ : ∃ w_ : World, w_ = ((((w.alloc (.cells #[.slice ao k cap] 25)).alloc (.cells #[.slice ao2 k2 cap2] 25)).alloc (.cells #[.slice ao3 k3 cap3] 25)).alloc (.cells #[.slice none 0 0] 25)) := ⟨_, rfl⟩
  rw [← hw] at ia ib ic ka kb kc kr hB ⊢
  clear hw
  have cc0 := kc.cell
  have lt0 := kc.lt
  have HW := Lib.hid (fun w_ => words_any 1 w_ (by omega) (by omega))
  have HD := Lib.hid (fun w_ v_ u_ n (h1 : IsN w_ v_ n) (h2 : IsN w_ u_ m) (hn : n < P2 (L + L)) => divMod_any h1 h2 HM0.out (L + L) (by omega) hn)
  have H1 := Lib.hid (show (1 : Int).toNat < P2 (L + L) from lt_P2_mono (show 1 < P2 L by have := HM0.out; have := HM.out; omega) (by omega))
  go_region_held3 (fun w' => w'.cell? ⟨w.heap.size + 1 + 1, 0, none⟩ = some (.slice ao3 k3 cap3) ∧ Below wo.heap.size wo w')
    (first
      | exact ⟨cc0, (Below.refl _ _).drew⟩
      | (go_split_ands; exact ⟨by assumption, by assumption⟩)
      | (go_split_ands; have hk := nextB (by assumption) bb; exact ⟨(hk.cell (p := ⟨w.heap.size + 1 + 1, 0, none⟩) lt0).trans cc0, hk⟩))
    (first
      | (go_at_call 101; go_split_ands; refine (HW.out _).mono ?_; rintro e wq ⟨v1, rfl, i1, bb⟩)
      | (go_at_call 111; go_split_ands; refine (HD.out _ _ _ _ (by assumption) (ic.below (by assumption)) H1.out).mono ?_; rintro e wq ⟨v1, v2, rfl, i1, i2, bb⟩))
  go_split_ands
  have b : Below wo.heap.size wo wq := by assumption
  obtain ⟨w2, hw⟩ : ∃ w_ : World, w_ = wq := ⟨_, rfl⟩
  rw [← hw] at b i2 ⊢
  clear hw
  replace hB := nextB hB b
  replace ia := ia.below b
  replace ib := ib.below b
  replace ic := ic.below b
  replace ka := ka.below b
  replace kb := kb.below b
  replace kc := kc.below b
  replace kr := kr.below b
  rw [show (1 : Int).toNat = 1 from rfl] at i2
  have i2' : IsN w2 v2 (1 % m) := i2
  clear i2 b cc0 H1
  have c1 := kc.cell
  have c0 := ka.cell
  go_wp2_with fail
  refine (divMod_any ia ic HM0.out L (by omega) HA.out).mono ?_
  rintro e w3 ⟨v3, v4, rfl, i3, i4, b⟩
  replace hB := nextB hB b
  replace ia := ia.below b
  replace ib := ib.below b
  replace ic := ic.below b
  replace ka := ka.below b
  replace kb := kb.below b
  replace kc := kc.below b
  replace kr := kr.below b
  replace i2' := i2'.below b
  clear b c0 c1
  have c1 := kb.cell
  go_wp2_with fail
  refine (bitLen_any ib L (by omega) HE.out).mono ?_
  rintro e wz ⟨rfl, hw⟩
  subst hw
  have c1 := kb.cell
  have HZ := Lib.hid (show a ^ (e0 / 2 ^ blen e0) % m = 1 % m by rw [Nat.div_eq_of_lt (show e0 < 2 ^ blen e0 from lt_blen), Nat.pow_zero])
  obtain ⟨wp, hwp⟩ : ∃ w_ : World, w_ = wz := ⟨_, rfl⟩
  rw [← hwp] at hB ia ib ic ka kb kc kr i2' i4 ⊢
  clear hwp c1
  obtain ⟨bl, hbl⟩ : ∃ bl, bl = blen e0 := ⟨_, rfl⟩
  have hbL : bl ≤ L := by rw [hbl]; exact HB1.out
  rw [← hbl] at HZ ⊢
  clear hbl
  go_wp2
  go_loopw [9, 12] (fun r i wr => ∃ (z : Int) (j : Nat), z = (j : Int) - 1 ∧ j ≤ bl ∧ i = .int .i64 z ∧ IsN wr r (a ^ (e0 / 2 ^ j) % m) ∧ Below wp.heap.size wp wr) (fun _ i _ => (intOf i + 1).toNat)
  case atStart => exact ⟨_, bl, rfl, Nat.le_refl _, rfl, by rw [HZ.out]; exact i2', Below.refl _ _⟩
  case round =>
    obtain ⟨z, j, hz, hj, rfl, iv, hb⟩ := hrel
    clear i2'
    by_cases hj0 : j = 0
    · subst hj0
      obtain rfl : z = -1 := by omega
      clear hz
      rw [Nat.pow_zero, Nat.div_one] at iv
      obtain ⟨ao9, k9, cap9, rfl⟩ := iv.slice
      replace hB := nextB hB hb
      replace kr := kr.below hb
      have c1 := kr.cell
      have f1 := kr.free
      go_wp2
      refine bodyPost_ret (v := .tuple #[.agg #[.slice ao9 k9 cap9], .int .i64 (0 : Nat)]) (by simp [results, Try.results80, go_sem, c1]) rfl ⟨_, rfl, ⟨_, rfl, iv.setBx kr NoInt.one _⟩, hB.setCell (by simp; omega) _⟩
    · obtain ⟨s, rfl⟩ : ∃ s, j = s + 1 := ⟨j - 1, by omega⟩
      obtain rfl : z = (s : Int) := by omega
      clear hz hj0
      have HP0 := Lib.hid (pmSt a e0 m s).n0
      have HP1 := Lib.hid (pmSt a e0 m s).n1
      have Hr := Lib.hid (Nat.lt_trans (HMod.out (a ^ (e0 / 2 ^ (s + 1)))) HM.out)
      generalize a ^ (e0 / 2 ^ (s + 1)) % m = r at *
      have HQ := Lib.hid (mul_lt_P2 Hr.out Hr.out)
      have b := hb
      replace hb : Below wp.heap.size wp wr := hb
      replace ia := ia.below b
      replace ib := ib.below b
      replace ic := ic.below b
      replace ka := ka.below b
      replace kb := kb.below b
      replace kc := kc.below b
      replace kr := kr.below b
      replace i4 := i4.below b
      replace hB := nextB hB b
      clear b
      go_wp2
      have cc0 := kc.cell
      have lt0 := kc.lt
      go_region_held3 (fun w' => w'.cell? ⟨w.heap.size + 1 + 1, 0, none⟩ = some (.slice ao3 k3 cap3) ∧ Below wr.heap.size wr w')
        (first
          | exact ⟨cc0, (Below.refl _ _).drew⟩
          | (go_split_ands; exact ⟨by assumption, by assumption⟩)
          | (go_split_ands; have hk := nextB (by assumption) bb; exact ⟨(hk.cell (p := ⟨w.heap.size + 1 + 1, 0, none⟩) lt0).trans cc0, hk⟩))
        (first
          | (go_at_call 100; go_split_ands; refine (mul_any (iv.below (by assumption)) (iv.below (by assumption)) L (by omega) Hr.out Hr.out).mono ?_; rintro e wq ⟨v1, rfl, i1, bb⟩)
          | (go_at_call 111; go_split_ands; refine (HD.out _ _ _ _ (by assumption) (ic.below (by assumption)) HQ.out).mono ?_; rintro e wq ⟨v1, v2, rfl, i1, i2, bb⟩))
      go_split_ands
      have b : Below wr.heap.size wr wq := by assumption
      obtain ⟨w5, hw⟩ : ∃ w_ : World, w_ = wq := ⟨_, rfl⟩
      rw [← hw] at b i2 ⊢
      clear hw
      replace ia := ia.below b
      replace ib := ib.below b
      replace ic := ic.below b
      replace ka := ka.below b
      replace kb := kb.below b
      replace kc := kc.below b
      replace kr := kr.below b
      replace i4 := i4.below b
      replace hb := nextB hb b
      replace hB := nextB hB b
      clear b cc0 iv
      have Hr2 := Lib.hid (Nat.lt_trans (HMod.out (r * r)) HM.out)
      have c1 := kb.cell
      go_wp2_with fail
      refine (Bit_any ⟨_, rfl, ib⟩ s (by omega) L (by omega) HE.out).mono ?_
      rintro e w6 ⟨rfl, b⟩
      have i2' := i2.below b
      replace ia := ia.below b
      replace ib := ib.below b
      replace ic := ic.below b
      replace ka := ka.below b
      replace kb := kb.below b
      replace kc := kc.below b
      replace kr := kr.below b
      replace i4 := i4.below b
      replace hb := nextB hb b
      replace hB := nextB hB b
      clear b i2 c1
      rw [show bitAt e0 s = e0 / 2 ^ s % 2 from rfl]
      have hlt2 : e0 / 2 ^ s % 2 < 2 := Nat.mod_lt _ (by omega)
      by_cases hd : e0 / 2 ^ s % 2 = 0
      · have e5 := HP0.out hd
        rw [hd]
        rw [e5] at i2'
        clear e5 hd hlt2 HP0 HP1
        go_wp2
        go_roundw
        case rel => exact ⟨_, s, rfl, by omega, by go_num, i2', hb⟩
        case measure => (simp [intOf] <;> omega)
      · have e5 := HP1.out hd
        rw [show e0 / 2 ^ s % 2 = 1 by omega]
        clear hd hlt2 HP0 HP1
        generalize r * r % m = r2 at *
        have Ha2 := Lib.hid (Nat.lt_trans (HMod.out a) HM.out)
        generalize a % m = a2 at *
        have HQ2 := Lib.hid (mul_lt_P2 Hr2.out Ha2.out)
        obtain ⟨w7, hw7⟩ : ∃ w_ : World, w_ = w6 := ⟨_, rfl⟩
        rw [← hw7] at ia ib ic ka kb kc kr i4 hb hB i2' ⊢
        clear hw7
        go_wp2
        have cc0 := kc.cell
        have lt0 := kc.lt
        go_region_held3 (fun w' => w'.cell? ⟨w.heap.size + 1 + 1, 0, none⟩ = some (.slice ao3 k3 cap3) ∧ Below w7.heap.size w7 w')
          (first
            | exact ⟨cc0, (Below.refl _ _).drew⟩
            | (go_split_ands; exact ⟨by assumption, by assumption⟩)
            | (go_split_ands; have hk := nextB (by assumption) bb; exact ⟨(hk.cell (p := ⟨w.heap.size + 1 + 1, 0, none⟩) lt0).trans cc0, hk⟩))
          (first
            | (go_at_call 100; go_split_ands; refine (mul_any (i2'.below (by assumption)) (i4.below (by assumption)) L (by omega) Hr2.out Ha2.out).mono ?_; rintro e wq ⟨v1, rfl, i1, bb⟩)
            | (go_at_call 111; go_split_ands; refine (HD.out _ _ _ _ (by assumption) (ic.below (by assumption)) HQ2.out).mono ?_; rintro e wq ⟨v1, v2, rfl, i1, i2, bb⟩))
        go_split_ands
        have b : Below w7.heap.size w7 wq := by assumption
        rw [e5] at i2
        replace hb := nextB hb b
        go_wp2
        go_roundw
        case rel => exact ⟨_, s, rfl, by omega, by go_num, i2, hb⟩
        case measure => (simp [intOf] <;> omega)

end Go.Proofs.Ytppbhjhbaknidaa

/-
  The contract of the specification's PowMod. Condition: numbers of at most 2^14 bits.
-/
set_option linter.unusedVariables false
set_option linter.unusedSimpArgs false
namespace Go.Proofs.Ytppbhjhbaknidaa
open Go.RowKit

structure PmStR (a e m s : Nat) : Prop where
  n0 : e / 2 ^ s % 2 = 0 → (a ^ (e / 2 ^ (s + 1)) % m * (a ^ (e / 2 ^ (s + 1)) % m)) % m = a ^ (e / 2 ^ s) % m
  n1 : e / 2 ^ s % 2 ≠ 0 → ((a ^ (e / 2 ^ (s + 1)) % m * (a ^ (e / 2 ^ (s + 1)) % m)) % m * a) % m = a ^ (e / 2 ^ s) % m
theorem pmStR (a e m s : Nat) : PmStR a e m s := by
  refine ⟨fun h => ?_, fun h => ?_⟩
  · rw [powmod_step, pow_even (a := a) h]
  · rw [powmod_step, Nat.mod_mul_mod, ← Nat.pow_succ, Nat.succ_eq_add_one, pow_odd (by omega)]

set_option maxHeartbeats 2000000 in
set_option maxRecDepth 100000 in
theorem powModR_any {w : World} {va ve vm : Value} {a e0 m : Nat} (ia : IsR w va a) (ib : IsR w ve e0) (ic : IsR w vm m) (hm0 : 0 < m) (L : Nat) (hL : L ≤ 16384) (hal : a < P2 L) (hel : e0 < P2 L) (hml : m < P2 L) :
    Calls Try.prog 81 #[va, ve, vm] w (RetR w (a ^ e0 % m)) := by
  have HA := Lib.hid hal
  have HE := Lib.hid hel
  have HM := Lib.hid hml
  have HM0 := Lib.hid hm0
  have HMod := Lib.hid (fun x => Nat.mod_lt x hm0)
  have HB1 := Lib.hid (blen_le.2 hel)
  have H1 := Lib.hid (show 1 < P2 (L + L) from lt_P2_mono (show 1 < P2 L by omega) (by omega))
  have HM2 := Lib.hid (lt_P2_mono hml (show L ≤ L + L by omega))
  clear hal hel hml hm0
  go_enter Try.func81, Try.ntmps81
  go_wp2_with fail
  refine (of_any 1 (by omega) _).mono ?_
  rintro e w1 ⟨v1, rfl, i1, hB⟩
  replace ia := ia.below hB
  replace ib := ib.below hB
  replace ic := ic.below hB
  go_wp2_with fail
  refine (divModR_any i1 ic HM0.out (L + L) (by omega) H1.out HM2.out).mono ?_
  rintro e w2 ⟨v2, v3, rfl, i2, i3, b⟩
  replace ia := ia.below b
  replace ib := ib.below b
  replace ic := ic.below b
  replace hB := nextB hB b
  clear b i1 i2
  go_wp2_with fail
  refine (bitLenR_any ib).mono ?_
  rintro e wz ⟨rfl, hw⟩
  subst hw
  have HZ := Lib.hid (show a ^ (e0 / 2 ^ blen e0) % m = 1 % m by rw [Nat.div_eq_of_lt (show e0 < 2 ^ blen e0 from lt_blen), Nat.pow_zero])
  obtain ⟨wp, hwp⟩ : ∃ w_ : World, w_ = wz := ⟨_, rfl⟩
  rw [← hwp] at hB ia ib ic i3 ⊢
  clear hwp
  obtain ⟨bl, hbl⟩ : ∃ bl, bl = blen e0 := ⟨_, rfl⟩
  have hbL : bl ≤ L := by rw [hbl]; exact HB1.out
  rw [← hbl] at HZ ⊢
  clear hbl
  go_wp2
  go_loopw [8, 9] (fun r i wr => ∃ (z : Int) (j : Nat), z = (j : Int) - 1 ∧ j ≤ bl ∧ i = .int .i64 z ∧ IsR wr r (a ^ (e0 / 2 ^ j) % m) ∧ Below wp.heap.size wp wr) (fun _ i _ => (intOf i + 1).toNat)
  case atStart => exact ⟨_, bl, rfl, Nat.le_refl _, rfl, by rw [HZ.out]; exact i3, Below.refl _ _⟩
  case round =>
    obtain ⟨z, j, hz, hj, rfl, iv, hb⟩ := hrel
    clear i3
    replace ia := ia.below hb
    replace ib := ib.below hb
    replace ic := ic.below hb
    replace hB := nextB hB hb
    by_cases hj0 : j = 0
    · subst hj0
      obtain rfl : z = -1 := by omega
      clear hz
      rw [Nat.pow_zero, Nat.div_one] at iv
      go_wp2
      go_ret
      exact ⟨_, rfl, iv, hB⟩
    · obtain ⟨s, rfl⟩ : ∃ s, j = s + 1 := ⟨j - 1, by omega⟩
      obtain rfl : z = (s : Int) := by omega
      clear hz hj0
      have HP0 := Lib.hid (pmStR a e0 m s).n0
      have HP1 := Lib.hid (pmStR a e0 m s).n1
      have Hr := Lib.hid (Nat.lt_trans (HMod.out (a ^ (e0 / 2 ^ (s + 1)))) HM.out)
      generalize a ^ (e0 / 2 ^ (s + 1)) % m = r at *
      have HQ := Lib.hid (mul_lt_P2 Hr.out Hr.out)
      go_wp2_with fail
      refine (mulR_any iv iv L (by omega) Hr.out Hr.out).mono ?_
      rintro e w4 ⟨v4, rfl, i4, b⟩
      replace ia := ia.below b
      replace ib := ib.below b
      replace ic := ic.below b
      replace hb := nextB hb b
      replace hB := nextB hB b
      clear b iv
      go_wp2_with fail
      refine (divModR_any i4 ic HM0.out (L + L) (by omega) HQ.out HM2.out).mono ?_
      rintro e w5 ⟨v5, v6, rfl, i5, i6, b⟩
      replace ia := ia.below b
      replace ib := ib.below b
      replace ic := ic.below b
      replace hb := nextB hb b
      replace hB := nextB hB b
      clear b i4 i5
      have Hr2 := Lib.hid (Nat.lt_trans (HMod.out (r * r)) HM.out)
      go_wp2_with fail
      refine ((bitR_any ib s (by omega) L (by omega) HE.out).mono (fun e w_ ⟨h1, k_, h2⟩ => (⟨h1, by rw [h2]; exact below_drew0 _ _⟩ : e = _ ∧ Below _ _ w_))).mono ?_
      rintro e w6 ⟨rfl, b⟩
      replace ia := ia.below b
      replace ib := ib.below b
      replace ic := ic.below b
      replace hb := nextB hb b
      replace hB := nextB hB b
      replace i6 := i6.below b
      clear b
      rw [show bitAt e0 s = e0 / 2 ^ s % 2 from rfl]
      have hlt2 : e0 / 2 ^ s % 2 < 2 := Nat.mod_lt _ (by omega)
      by_cases hd : e0 / 2 ^ s % 2 = 0
      · have e5 := HP0.out hd
        rw [hd]
        rw [e5] at i6
        clear e5 hd hlt2 HP0 HP1
        go_wp2
        go_roundw
        case rel => exact ⟨_, s, rfl, by omega, by go_num, i6, hb⟩
        case measure => (simp [intOf] <;> omega)
      · have e5 := HP1.out hd
        rw [show e0 / 2 ^ s % 2 = 1 by omega]
        clear hd hlt2 HP0 HP1
        generalize r * r % m = r2 at *
        have HQ2 := Lib.hid (mul_lt_P2 Hr2.out HA.out)
        go_wp2_with fail
        refine (mulR_any i6 ia L (by omega) Hr2.out HA.out).mono ?_
        rintro e w7 ⟨v7, rfl, i7, b⟩
        replace ic := ic.below b
        replace hb := nextB hb b
        clear b
        go_wp2_with fail
        refine (divModR_any i7 ic HM0.out (L + L) (by omega) HQ2.out HM2.out).mono ?_
        rintro e w8 ⟨v8, v9, rfl, i8, i9, b⟩
        rw [e5] at i9
        replace hb := nextB hb b
        clear b i7 i8 e5
        go_wp2
        go_roundw
        case rel => exact ⟨_, s, rfl, by omega, by go_num, i9, hb⟩
        case measure => (simp [intOf] <;> omega)

end Go.Proofs.Ytppbhjhbaknidaa

/-
  The walks of the laws NatPowMods and NatExponents. No condition.
-/
set_option linter.unusedVariables false
set_option linter.unusedSimpArgs false
namespace Go.Proofs.Ytppbhjhbaknidaa
open Go.RowKit

structure ExpOk (c n d f : Nat) : Prop where
  sum : d + f < P2 16384
  ul : c ^ d % n < P2 16384
  vl : c ^ f % n < P2 16384
  tl : c ^ d % n * (c ^ f % n) < P2 16384
  eq : c ^ d % n * (c ^ f % n) % n = c ^ (d + f) % n
  wn : c ^ (d + f) % n < n
theorem exp_ok {c n d f : Nat} (hc : c < P2 (16 * 12)) (hn : n < P2 (16 * 12)) (hd : d < P2 (16 * 12)) (hf : f < P2 (16 * 12)) (h0 : 0 < n) : ExpOk c n d f := by
  have h1 := Nat.mod_lt (c ^ d) h0
  have h2 := Nat.mod_lt (c ^ f) h0
  refine ⟨lt_P2_mono (add_lt_P2 hd hf) (by omega), lt_P2_mono (Nat.lt_trans h1 hn) (by omega), lt_P2_mono (Nat.lt_trans h2 hn) (by omega),
    lt_P2_mono (mul_lt_P2 (Nat.lt_trans h1 hn) (Nat.lt_trans h2 hn)) (by omega), ?_, Nat.mod_lt _ h0⟩
  rw [← Nat.mul_mod, ← Nat.pow_add]

set_option maxHeartbeats 8000000 in
set_option maxRecDepth 100000 in
theorem NatPowMods_walk (va : Value) (vb : Value) (vm : Value) (w : World) (ia : In16 w va) (ib : In16 w vb) (im : In16 w vm) :
    Calls Try.prog 19 #[va, vb, vm] w (RetB w true) := by
  have hB := Below.refl w.heap.size w
  go_enter Try.func19, Try.ntmps19
  go_wp2_with fail
  refine (raw_any ia 4 (by omega)).mono ?_
  rintro e w1 ⟨c, hc, rc, rfl, icr, b⟩
  replace hB := nextB hB b
  replace ia := ia.below b
  replace ib := ib.below b
  replace im := im.below b
  clear b
  have Hc := Lib.hid hc
  clear hc
  go_wp2_with fail
  refine (raw_any ib 4 (by omega)).mono ?_
  rintro e w2 ⟨d, hd, rd, rfl, idr, b⟩
  replace hB := nextB hB b
  replace ia := ia.below b
  replace ib := ib.below b
  replace im := im.below b
  replace icr := icr.below b
  clear b
  have Hd := Lib.hid hd
  clear hd
  go_wp2_with fail
  refine (raw_any im 4 (by omega)).mono ?_
  rintro e w3 ⟨k, hk, rk, rfl, ikr, b⟩
  replace hB := nextB hB b
  replace ia := ia.below b
  replace ib := ib.below b
  replace im := im.below b
  replace icr := icr.below b
  replace idr := idr.below b
  clear b
  have Hk := Lib.hid hk
  clear hk
  have Hc := Lib.hid (lt_P2_mono Hc.out (show 16 * 4 ≤ 16384 by omega))
  have Hd := Lib.hid (lt_P2_mono Hd.out (show 16 * 4 ≤ 16384 by omega))
  have Hk := Lib.hid (lt_P2_mono Hk.out (show 16 * 4 ≤ 16384 by omega))
  go_wp2_with fail
  refine (two_any icr idr Hc.out Hd.out).mono ?_
  rintro e w4 ⟨u1, u2, rfl, j1, j2, b⟩
  obtain ⟨aox, qx, capx, rfl, xx⟩ := j1.slice
  clear j1
  obtain ⟨aoy, qy, capy, rfl, xy⟩ := j2.slice
  clear j2
  replace hB := nextB hB b
  replace ia := ia.below b
  replace ib := ib.below b
  replace im := im.below b
  replace icr := icr.below b
  replace idr := idr.below b
  replace ikr := ikr.below b
  clear b
  obtain ⟨b, kx, ky⟩ := pro2 w4 (.slice aox qx capx) (.slice aoy qy capy)
  obtain ⟨Rx, hRx⟩ : ∃ R, R = w4.heap.size := ⟨_, rfl⟩
  have cc0 := kx.cell
  have cc1 := ky.cell
  go_wp2_with fail
  obtain ⟨w5, hw⟩ : ∃ w_ : World, w_ = ((w4.alloc (.cells #[.slice aox qx capx] 25)).alloc (.cells #[.slice aoy qy capy] 25)) := ⟨_, rfl⟩
  rw [← hw] at b kx ky ⊢
  rw [← hRx] at kx ky ⊢
  clear hw hRx cc0 cc1
  replace hB := nextB hB b
  replace ia := ia.below b
  replace ib := ib.below b
  replace im := im.below b
  replace icr := icr.below b
  replace idr := idr.below b
  replace ikr := ikr.below b
  replace xx := xx.below b
  replace xy := xy.below b
  clear b
  refine (made_any ikr Hk.out).mono ?_
  rintro e w6 ⟨v_, rfl, j_, b⟩
  obtain ⟨aoz, qz, capz, rfl, xz⟩ := j_.slice
  clear j_
  replace hB := nextB hB b
  replace ia := ia.below b
  replace ib := ib.below b
  replace im := im.below b
  replace icr := icr.below b
  replace idr := idr.below b
  replace ikr := ikr.below b
  replace xx := xx.below b
  replace xy := xy.below b
  replace kx := kx.below b
  replace ky := ky.below b
  clear b
  obtain ⟨b, kz⟩ := pro1 w6 (.slice aoz qz capz)
  obtain ⟨Rz, hRz⟩ : ∃ R, R = w6.heap.size := ⟨_, rfl⟩
  have cc0 := (kx.below b).cell
  have cc1 := (ky.below b).cell
  have cc2 := kz.cell
  go_wp2_with fail
  obtain ⟨w7, hw⟩ : ∃ w_ : World, w_ = (w6.alloc (.cells #[.slice aoz qz capz] 25)) := ⟨_, rfl⟩
  rw [← hw] at b kz ⊢
  rw [← hRz] at kz ⊢
  clear hw hRz cc0 cc1 cc2
  replace hB := nextB hB b
  replace ia := ia.below b
  replace ib := ib.below b
  replace im := im.below b
  replace icr := icr.below b
  replace idr := idr.below b
  replace ikr := ikr.below b
  replace xx := xx.below b
  replace xy := xy.below b
  replace kx := kx.below b
  replace ky := ky.below b
  replace xz := xz.below b
  clear b
  obtain ⟨aok, qk, capk, rfl, hqk, -⟩ := ikr.slice
  by_cases hk0 : k = 0
  · obtain rfl := hqk.2 hk0
    subst hk0
    clear hqk
    refine (PowMod_zero ⟨_, rfl, xx⟩ ⟨_, rfl, xy⟩ ⟨_, rfl, xz⟩).mono ?_
    rintro e w8 ⟨v_, rfl, j_, b⟩
    rw [if_neg (by omega)] at j_
    replace hB := nextB hB b
    replace ia := ia.below b
    replace ib := ib.below b
    replace im := im.below b
    replace icr := icr.below b
    replace idr := idr.below b
    replace ikr := ikr.below b
    replace xx := xx.below b
    replace xy := xy.below b
    replace kx := kx.below b
    replace ky := ky.below b
    replace xz := xz.below b
    replace kz := kz.below b
    clear b
    obtain ⟨aow, qw, capw, rfl, xw⟩ := j_.slice
    clear j_
    obtain ⟨b, kw⟩ := pro1 w8 (.slice aow qw capw)
    obtain ⟨Rw, hRw⟩ : ∃ R, R = w8.heap.size := ⟨_, rfl⟩
    have cc0 := (kx.below b).cell
    have cc1 := (ky.below b).cell
    have cc2 := (kz.below b).cell
    have cc3 := kw.cell
    go_wp2_with fail
    obtain ⟨w9, hw⟩ : ∃ w_ : World, w_ = (w8.alloc (.cells #[.slice aow qw capw] 25)) := ⟨_, rfl⟩
    rw [← hw] at b kw ⊢
    rw [← hRw] at kw ⊢
    clear hw hRw cc0 cc1 cc2 cc3
    replace hB := nextB hB b
    replace ia := ia.below b
    replace ib := ib.below b
    replace im := im.below b
    replace icr := icr.below b
    replace idr := idr.below b
    replace ikr := ikr.below b
    replace xx := xx.below b
    replace xy := xy.below b
    replace kx := kx.below b
    replace ky := ky.below b
    replace xz := xz.below b
    replace kz := kz.below b
    replace xw := xw.below b
    clear b
    refine (told_err (er := 11) ⟨_, rfl, xw⟩ (by omega) (by omega) ⟨_, _, _, rfl⟩).mono ?_
    rintro e w10 ⟨rfl, b⟩
    replace hB := nextB hB b
    replace ia := ia.below b
    replace ib := ib.below b
    replace im := im.below b
    replace icr := icr.below b
    replace idr := idr.below b
    replace ikr := ikr.below b
    replace xx := xx.below b
    replace xy := xy.below b
    replace kx := kx.below b
    replace ky := ky.below b
    replace xz := xz.below b
    replace kz := kz.below b
    replace xw := xw.below b
    replace kw := kw.below b
    clear b
    have cc0 := kx.cell
    have cc1 := ky.cell
    have cc2 := kz.cell
    have cc3 := kw.cell
    go_wp2_with fail
    clear cc0 cc1 cc2 cc3
    refine (awake_any _).mono ?_
    rintro e w11 ⟨rfl, b⟩
    replace hB := nextB hB b
    replace ia := ia.below b
    replace ib := ib.below b
    replace im := im.below b
    replace icr := icr.below b
    replace idr := idr.below b
    replace ikr := ikr.below b
    replace xx := xx.below b
    replace xy := xy.below b
    replace kx := kx.below b
    replace ky := ky.below b
    replace xz := xz.below b
    replace kz := kz.below b
    replace xw := xw.below b
    replace kw := kw.below b
    clear b
    go_wp2
    go_ret
    exact ⟨rfl, hB⟩
  · have hqk0 : ((qk : Int) == 0) = false := by rw [beq_eq_false_iff_ne]; intro hh; exact hk0 (hqk.1 (by omega))
    have HK0 := Lib.hid (Nat.pos_of_ne_zero hk0)
    clear hqk hk0
    have HLT := Lib.hid (Nat.lt_trans (Nat.mod_lt (c ^ d) HK0.out) Hk.out)
    refine (PowMod_any ⟨_, rfl, xx⟩ ⟨_, rfl, xy⟩ ⟨_, rfl, xz⟩ HK0.out 16384 (by omega) Hc.out Hd.out Hk.out).mono ?_
    rintro e w8 ⟨v_, rfl, j_, b⟩
    rw [if_pos rfl] at j_
    replace hB := nextB hB b
    replace ia := ia.below b
    replace ib := ib.below b
    replace im := im.below b
    replace icr := icr.below b
    replace idr := idr.below b
    replace ikr := ikr.below b
    replace xx := xx.below b
    replace xy := xy.below b
    replace kx := kx.below b
    replace ky := ky.below b
    replace xz := xz.below b
    replace kz := kz.below b
    clear b
    have HPR := Lib.hid (fun w_ v_ u_ t_ (h1 : IsR w_ v_ c) (h2 : IsR w_ u_ d) (h3 : IsR w_ t_ k) => powModR_any h1 h2 h3 HK0.out 16384 (by omega) Hc.out Hd.out Hk.out)
    generalize c ^ d % k = pm at *
    obtain ⟨aow, qw, capw, rfl, xw⟩ := j_.slice
    clear j_
    obtain ⟨b, kw⟩ := pro1 w8 (.slice aow qw capw)
    obtain ⟨Rw, hRw⟩ : ∃ R, R = w8.heap.size := ⟨_, rfl⟩
    have cc0 := (kx.below b).cell
    have cc1 := (ky.below b).cell
    have cc2 := (kz.below b).cell
    have cc3 := kw.cell
    go_wp2_with fail
    obtain ⟨w9, hw⟩ : ∃ w_ : World, w_ = (w8.alloc (.cells #[.slice aow qw capw] 25)) := ⟨_, rfl⟩
    rw [← hw] at b kw ⊢
    rw [← hRw] at kw ⊢
    clear hw hRw cc0 cc1 cc2 cc3
    replace hB := nextB hB b
    replace ia := ia.below b
    replace ib := ib.below b
    replace im := im.below b
    replace icr := icr.below b
    replace idr := idr.below b
    replace ikr := ikr.below b
    replace xx := xx.below b
    replace xy := xy.below b
    replace kx := kx.below b
    replace ky := ky.below b
    replace xz := xz.below b
    replace kz := kz.below b
    replace xw := xw.below b
    clear b
    obtain ⟨wo, hwo⟩ : ∃ wo : World, wo = w9 := ⟨_, rfl⟩
    rw [← hwo] at hB ia ib im icr idr ikr xx xy kx ky xz kz xw kw ⊢
    clear hwo
    have cc0 := kx.cell
    have cc1 := ky.cell
    have cc2 := kz.cell
    have cc3 := kw.cell
    have ltx := kx.lt
    have lty := ky.lt
    have ltz := kz.lt
    have ltw := kw.lt
    go_wp2
    go_region_held3 (fun w' => w'.cell? ⟨Rx, 0, none⟩ = some (.slice aox qx capx) ∧ w'.cell? ⟨Rx + 1, 0, none⟩ = some (.slice aoy qy capy) ∧ w'.cell? ⟨Rz, 0, none⟩ = some (.slice aoz qz capz) ∧ w'.cell? ⟨Rw, 0, none⟩ = some (.slice aow qw capw) ∧ Below wo.heap.size wo w')
      (first
        | exact ⟨cc0, cc1, cc2, cc3, (Below.refl _ _).drew⟩
        | (go_split_ands; exact ⟨by assumption, by assumption, by assumption, by assumption, by assumption⟩)
        | (go_split_ands; have hk := nextB (by assumption) bb; exact ⟨(hk.cell (p := ⟨Rx, 0, none⟩) ltx).trans cc0, (hk.cell (p := ⟨Rx + 1, 0, none⟩) lty).trans cc1, (hk.cell (p := ⟨Rz, 0, none⟩) ltz).trans cc2, (hk.cell (p := ⟨Rw, 0, none⟩) ltw).trans cc3, hk⟩))
      (first
        | (go_at_call 81; go_split_ands; refine (HPR.out _ _ _ _ (icr.below (by assumption)) (idr.below (by assumption)) (ikr.below (by assumption))).mono ?_; rintro e wq ⟨vr, rfl, ir, bb⟩)
        | (go_at_call 34; go_split_ands; refine (told_ok ⟨_, rfl, xw.below (by assumption)⟩ (by assumption) 16384 (by omega) HLT.out).mono ?_; rintro e wq ⟨rfl, bb⟩)
        | (go_at_call 31; go_split_ands; refine (awake_any _).mono ?_; rintro e wq ⟨rfl, bb⟩))
    go_split_ands
    have hC := nextB hB (by assumption)
    go_wp2
    go_ret
    exact ⟨rfl, hC⟩

set_option maxHeartbeats 8000000 in
set_option maxRecDepth 100000 in
theorem NatExponents_walk (va : Value) (vi : Value) (vk : Value) (vm : Value) (w : World) (ia : In16 w va) (ii : In16 w vi) (ik : In16 w vk) (im : In16 w vm) :
    Calls Try.prog 25 #[va, vi, vk, vm] w (RetB w true) := by
  have hB := Below.refl w.heap.size w
  go_enter Try.func25, Try.ntmps25
  go_wp2_with fail
  refine (raw_any ia 12 (by omega)).mono ?_
  rintro e w1 ⟨c, hc, rc, rfl, icr, b⟩
  replace hB := nextB hB b
  replace ia := ia.below b
  replace ii := ii.below b
  replace ik := ik.below b
  replace im := im.below b
  clear b
  have Hc := Lib.hid hc
  clear hc
  go_wp2_with fail
  refine (raw_any im 12 (by omega)).mono ?_
  rintro e w2 ⟨h, hh, rh, rfl, ihr, b⟩
  replace hB := nextB hB b
  replace ia := ia.below b
  replace ii := ii.below b
  replace ik := ik.below b
  replace im := im.below b
  replace icr := icr.below b
  clear b
  have Hh := Lib.hid hh
  clear hh
  have Kc := Hc
  have Hc := Lib.hid (lt_P2_mono Hc.out (show 16 * 12 ≤ 16384 by omega))
  have Kh := Hh
  have Hh := Lib.hid (lt_P2_mono Hh.out (show 16 * 12 ≤ 16384 by omega))
  go_wp2_with fail
  refine (two_any icr ihr Hc.out Hh.out).mono ?_
  rintro e w3 ⟨u1, u2, rfl, j1, j2, b⟩
  obtain ⟨aox, qx, capx, rfl, xx⟩ := j1.slice
  clear j1
  obtain ⟨aoz, qz, capz, rfl, xz⟩ := j2.slice
  clear j2
  replace hB := nextB hB b
  replace ia := ia.below b
  replace ii := ii.below b
  replace ik := ik.below b
  replace im := im.below b
  replace icr := icr.below b
  replace ihr := ihr.below b
  clear b
  obtain ⟨b, kx, kz⟩ := pro2 w3 (.slice aox qx capx) (.slice aoz qz capz)
  obtain ⟨Rx, hRx⟩ : ∃ R, R = w3.heap.size := ⟨_, rfl⟩
  have cc0 := kx.cell
  have cc1 := kz.cell
  go_wp2_with fail
  obtain ⟨w4, hw⟩ : ∃ w_ : World, w_ = ((w3.alloc (.cells #[.slice aox qx capx] 25)).alloc (.cells #[.slice aoz qz capz] 25)) := ⟨_, rfl⟩
  rw [← hw] at b kx kz ⊢
  rw [← hRx] at kx kz ⊢
  clear hw hRx cc0 cc1
  replace hB := nextB hB b
  replace ia := ia.below b
  replace ii := ii.below b
  replace ik := ik.below b
  replace im := im.below b
  replace icr := icr.below b
  replace ihr := ihr.below b
  replace xx := xx.below b
  replace xz := xz.below b
  clear b
  refine (raw_any ii 12 (by omega)).mono ?_
  rintro e w5 ⟨d, hd, rd, rfl, idr, b⟩
  replace hB := nextB hB b
  replace ia := ia.below b
  replace ii := ii.below b
  replace ik := ik.below b
  replace im := im.below b
  replace icr := icr.below b
  replace ihr := ihr.below b
  replace xx := xx.below b
  replace xz := xz.below b
  replace kx := kx.below b
  replace kz := kz.below b
  clear b
  have Hd := Lib.hid hd
  clear hd
  have cc0 := kx.cell
  have cc1 := kz.cell
  go_wp2_with fail
  clear cc0 cc1
  refine (raw_any ik 12 (by omega)).mono ?_
  rintro e w6 ⟨j, hj, rj, rfl, ijr, b⟩
  replace hB := nextB hB b
  replace ia := ia.below b
  replace ii := ii.below b
  replace ik := ik.below b
  replace im := im.below b
  replace icr := icr.below b
  replace ihr := ihr.below b
  replace xx := xx.below b
  replace xz := xz.below b
  replace kx := kx.below b
  replace kz := kz.below b
  replace idr := idr.below b
  clear b
  have Hj := Lib.hid hj
  clear hj
  have Kd := Hd
  have Hd := Lib.hid (lt_P2_mono Hd.out (show 16 * 12 ≤ 16384 by omega))
  have Kj := Hj
  have Hj := Lib.hid (lt_P2_mono Hj.out (show 16 * 12 ≤ 16384 by omega))
  have cc0 := kx.cell
  have cc1 := kz.cell
  go_wp2_with fail
  clear cc0 cc1
  refine (two_any idr ijr Hd.out Hj.out).mono ?_
  rintro e w7 ⟨u1, u2, rfl, j1, j2, b⟩
  obtain ⟨aop, qp, capp, rfl, xp⟩ := j1.slice
  clear j1
  obtain ⟨aoq, qq, capq, rfl, xq⟩ := j2.slice
  clear j2
  replace hB := nextB hB b
  replace ia := ia.below b
  replace ii := ii.below b
  replace ik := ik.below b
  replace im := im.below b
  replace icr := icr.below b
  replace ihr := ihr.below b
  replace xx := xx.below b
  replace xz := xz.below b
  replace kx := kx.below b
  replace kz := kz.below b
  replace idr := idr.below b
  replace ijr := ijr.below b
  clear b
  obtain ⟨b, kp, kq⟩ := pro2 w7 (.slice aop qp capp) (.slice aoq qq capq)
  obtain ⟨Rp, hRp⟩ : ∃ R, R = w7.heap.size := ⟨_, rfl⟩
  have cc0 := (kx.below b).cell
  have cc1 := (kz.below b).cell
  have cc2 := kp.cell
  have cc3 := kq.cell
  go_wp2_with fail
  obtain ⟨w8, hw⟩ : ∃ w_ : World, w_ = ((w7.alloc (.cells #[.slice aop qp capp] 25)).alloc (.cells #[.slice aoq qq capq] 25)) := ⟨_, rfl⟩
  rw [← hw] at b kp kq ⊢
  rw [← hRp] at kp kq ⊢
  clear hw hRp cc0 cc1 cc2 cc3
  replace hB := nextB hB b
  replace ia := ia.below b
  replace ii := ii.below b
  replace ik := ik.below b
  replace im := im.below b
  replace icr := icr.below b
  replace ihr := ihr.below b
  replace xx := xx.below b
  replace xz := xz.below b
  replace kx := kx.below b
  replace kz := kz.below b
  replace idr := idr.below b
  replace ijr := ijr.below b
  replace xp := xp.below b
  replace xq := xq.below b
  clear b
  clear icr ihr idr ijr
  by_cases hn0 : h = 0
  · subst hn0
    refine (BitLen_any ⟨_, rfl, xz⟩ 16384 (by omega) Hh.out).mono ?_
    rintro e w9 ⟨rfl, b⟩
    rw [show blen 0 = 0 from rfl]
    replace hB := nextB hB b
    replace ia := ia.below b
    replace ii := ii.below b
    replace ik := ik.below b
    replace im := im.below b
    replace xx := xx.below b
    replace xz := xz.below b
    replace kx := kx.below b
    replace kz := kz.below b
    replace xp := xp.below b
    replace xq := xq.below b
    replace kp := kp.below b
    replace kq := kq.below b
    clear b
    have cc0 := kx.cell
    have cc1 := kz.cell
    have cc2 := kp.cell
    have cc3 := kq.cell
    go_wp2_with fail
    clear cc0 cc1 cc2 cc3
    refine (awake_any _).mono ?_
    rintro e w10 ⟨rfl, b⟩
    replace hB := nextB hB b
    replace ia := ia.below b
    replace ii := ii.below b
    replace ik := ik.below b
    replace im := im.below b
    replace xx := xx.below b
    replace xz := xz.below b
    replace kx := kx.below b
    replace kz := kz.below b
    replace xp := xp.below b
    replace xq := xq.below b
    replace kp := kp.below b
    replace kq := kq.below b
    clear b
    go_wp2
    go_ret
    exact ⟨rfl, hB⟩
  · have hbn : (((blen h : Nat) : Int) == 0) = false := by rw [beq_eq_false_iff_ne]; exact blen_ne hn0
    have hn1 : 0 < h := Nat.pos_of_ne_zero hn0
    have HN := Lib.hid hn1
    have HX := Lib.hid (exp_ok Kc.out Kh.out Kd.out Kj.out hn1)
    clear hn0 hn1
    refine (BitLen_any ⟨_, rfl, xz⟩ 16384 (by omega) Hh.out).mono ?_
    rintro e w9 ⟨rfl, b⟩
    replace hB := nextB hB b
    replace ia := ia.below b
    replace ii := ii.below b
    replace ik := ik.below b
    replace im := im.below b
    replace xx := xx.below b
    replace xz := xz.below b
    replace kx := kx.below b
    replace kz := kz.below b
    replace xp := xp.below b
    replace xq := xq.below b
    replace kp := kp.below b
    replace kq := kq.below b
    clear b
    have Fs : Hid (fitE (d + j) = 0) := Lib.hid (fit_ok (HX.out.sum))
    have Bs : Hid (d + j < P2 16384) := Lib.hid (HX.out.sum)
    have cc0 := kx.cell
    have cc1 := kz.cell
    have cc2 := kp.cell
    have cc3 := kq.cell
    go_wp2_with fail
    clear cc0 cc1 cc2 cc3
    refine (Add_any ⟨_, rfl, xp⟩ ⟨_, rfl, xq⟩ 16384 (by omega) Hd.out Hj.out).mono ?_
    rintro e w10 ⟨v_, rfl, j_, b⟩
    rw [Fs.out, if_pos rfl] at j_
    rw [Fs.out]
    replace hB := nextB hB b
    replace ia := ia.below b
    replace ii := ii.below b
    replace ik := ik.below b
    replace im := im.below b
    replace xx := xx.below b
    replace xz := xz.below b
    replace kx := kx.below b
    replace kz := kz.below b
    replace xp := xp.below b
    replace xq := xq.below b
    replace kp := kp.below b
    replace kq := kq.below b
    clear b
    obtain ⟨aos, qs, caps, rfl, xs⟩ := j_.slice
    clear j_
    obtain ⟨b, ks⟩ := pro1 w10 (.slice aos qs caps)
    obtain ⟨Rs, hRs⟩ : ∃ R, R = w10.heap.size := ⟨_, rfl⟩
    have cc0 := (kx.below b).cell
    have cc1 := (kz.below b).cell
    have cc2 := (kp.below b).cell
    have cc3 := (kq.below b).cell
    have cc4 := ks.cell
    go_wp2_with fail
    obtain ⟨w11, hw⟩ : ∃ w_ : World, w_ = (w10.alloc (.cells #[.slice aos qs caps] 25)) := ⟨_, rfl⟩
    rw [← hw] at b ks ⊢
    rw [← hRs] at ks ⊢
    clear hw hRs cc0 cc1 cc2 cc3 cc4
    replace hB := nextB hB b
    replace ia := ia.below b
    replace ii := ii.below b
    replace ik := ik.below b
    replace im := im.below b
    replace xx := xx.below b
    replace xz := xz.below b
    replace kx := kx.below b
    replace kz := kz.below b
    replace xp := xp.below b
    replace xq := xq.below b
    replace kp := kp.below b
    replace kq := kq.below b
    replace xs := xs.below b
    clear b
    refine (PowMod_any ⟨_, rfl, xx⟩ ⟨_, rfl, xp⟩ ⟨_, rfl, xz⟩ HN.out 16384 (by omega) Hc.out Hd.out Hh.out).mono ?_
    rintro e w12 ⟨v_, rfl, j_, b⟩
    rw [if_pos rfl] at j_
    replace hB := nextB hB b
    replace ia := ia.below b
    replace ii := ii.below b
    replace ik := ik.below b
    replace im := im.below b
    replace xx := xx.below b
    replace xz := xz.below b
    replace kx := kx.below b
    replace kz := kz.below b
    replace xp := xp.below b
    replace xq := xq.below b
    replace kp := kp.below b
    replace kq := kq.below b
    replace xs := xs.below b
    replace ks := ks.below b
    clear b
    obtain ⟨aou, qu, capu, rfl, xu⟩ := j_.slice
    clear j_
    obtain ⟨b, ku⟩ := pro1 w12 (.slice aou qu capu)
    obtain ⟨Ru, hRu⟩ : ∃ R, R = w12.heap.size := ⟨_, rfl⟩
    have cc0 := (kx.below b).cell
    have cc1 := (kz.below b).cell
    have cc2 := (kp.below b).cell
    have cc3 := (kq.below b).cell
    have cc4 := (ks.below b).cell
    have cc5 := ku.cell
    go_wp2_with fail
    obtain ⟨w13, hw⟩ : ∃ w_ : World, w_ = (w12.alloc (.cells #[.slice aou qu capu] 25)) := ⟨_, rfl⟩
    rw [← hw] at b ku ⊢
    rw [← hRu] at ku ⊢
    clear hw hRu cc0 cc1 cc2 cc3 cc4 cc5
    replace hB := nextB hB b
    replace ia := ia.below b
    replace ii := ii.below b
    replace ik := ik.below b
    replace im := im.below b
    replace xx := xx.below b
    replace xz := xz.below b
    replace kx := kx.below b
    replace kz := kz.below b
    replace xp := xp.below b
    replace xq := xq.below b
    replace kp := kp.below b
    replace kq := kq.below b
    replace xs := xs.below b
    replace ks := ks.below b
    replace xu := xu.below b
    clear b
    refine (PowMod_any ⟨_, rfl, xx⟩ ⟨_, rfl, xq⟩ ⟨_, rfl, xz⟩ HN.out 16384 (by omega) Hc.out Hj.out Hh.out).mono ?_
    rintro e w14 ⟨v_, rfl, j_, b⟩
    rw [if_pos rfl] at j_
    replace hB := nextB hB b
    replace ia := ia.below b
    replace ii := ii.below b
    replace ik := ik.below b
    replace im := im.below b
    replace xx := xx.below b
    replace xz := xz.below b
    replace kx := kx.below b
    replace kz := kz.below b
    replace xp := xp.below b
    replace xq := xq.below b
    replace kp := kp.below b
    replace kq := kq.below b
    replace xs := xs.below b
    replace ks := ks.below b
    replace xu := xu.below b
    replace ku := ku.below b
    clear b
    obtain ⟨aov, qv, capv, rfl, xv⟩ := j_.slice
    clear j_
    obtain ⟨b, kv⟩ := pro1 w14 (.slice aov qv capv)
    obtain ⟨Rv, hRv⟩ : ∃ R, R = w14.heap.size := ⟨_, rfl⟩
    have cc0 := (kx.below b).cell
    have cc1 := (kz.below b).cell
    have cc2 := (kp.below b).cell
    have cc3 := (kq.below b).cell
    have cc4 := (ks.below b).cell
    have cc5 := (ku.below b).cell
    have cc6 := kv.cell
    go_wp2_with fail
    obtain ⟨w15, hw⟩ : ∃ w_ : World, w_ = (w14.alloc (.cells #[.slice aov qv capv] 25)) := ⟨_, rfl⟩
    rw [← hw] at b kv ⊢
    rw [← hRv] at kv ⊢
    clear hw hRv cc0 cc1 cc2 cc3 cc4 cc5 cc6
    replace hB := nextB hB b
    replace ia := ia.below b
    replace ii := ii.below b
    replace ik := ik.below b
    replace im := im.below b
    replace xx := xx.below b
    replace xz := xz.below b
    replace kx := kx.below b
    replace kz := kz.below b
    replace xp := xp.below b
    replace xq := xq.below b
    replace kp := kp.below b
    replace kq := kq.below b
    replace xs := xs.below b
    replace ks := ks.below b
    replace xu := xu.below b
    replace ku := ku.below b
    replace xv := xv.below b
    clear b
    refine (PowMod_any ⟨_, rfl, xx⟩ ⟨_, rfl, xs⟩ ⟨_, rfl, xz⟩ HN.out 16384 (by omega) Hc.out Bs.out Hh.out).mono ?_
    rintro e w16 ⟨v_, rfl, j_, b⟩
    rw [if_pos rfl] at j_
    replace hB := nextB hB b
    replace ia := ia.below b
    replace ii := ii.below b
    replace ik := ik.below b
    replace im := im.below b
    replace xx := xx.below b
    replace xz := xz.below b
    replace kx := kx.below b
    replace kz := kz.below b
    replace xp := xp.below b
    replace xq := xq.below b
    replace kp := kp.below b
    replace kq := kq.below b
    replace xs := xs.below b
    replace ks := ks.below b
    replace xu := xu.below b
    replace ku := ku.below b
    replace xv := xv.below b
    replace kv := kv.below b
    clear b
    obtain ⟨aow, qw, capw, rfl, xw⟩ := j_.slice
    clear j_
    obtain ⟨b, kw⟩ := pro1 w16 (.slice aow qw capw)
    obtain ⟨Rw, hRw⟩ : ∃ R, R = w16.heap.size := ⟨_, rfl⟩
    have cc0 := (kx.below b).cell
    have cc1 := (kz.below b).cell
    have cc2 := (kp.below b).cell
    have cc3 := (kq.below b).cell
    have cc4 := (ks.below b).cell
    have cc5 := (ku.below b).cell
    have cc6 := (kv.below b).cell
    have cc7 := kw.cell
    go_wp2_with fail
    obtain ⟨w17, hw⟩ : ∃ w_ : World, w_ = (w16.alloc (.cells #[.slice aow qw capw] 25)) := ⟨_, rfl⟩
    rw [← hw] at b kw ⊢
    rw [← hRw] at kw ⊢
    clear hw hRw cc0 cc1 cc2 cc3 cc4 cc5 cc6 cc7
    replace hB := nextB hB b
    replace ia := ia.below b
    replace ii := ii.below b
    replace ik := ik.below b
    replace im := im.below b
    replace xx := xx.below b
    replace xz := xz.below b
    replace kx := kx.below b
    replace kz := kz.below b
    replace xp := xp.below b
    replace xq := xq.below b
    replace kp := kp.below b
    replace kq := kq.below b
    replace xs := xs.below b
    replace ks := ks.below b
    replace xu := xu.below b
    replace ku := ku.below b
    replace xv := xv.below b
    replace kv := kv.below b
    replace xw := xw.below b
    clear b
    have Ft : Hid (fitE (c ^ d % h * (c ^ j % h)) = 0) := Lib.hid (fit_ok (HX.out.tl))
    have Bt : Hid (c ^ d % h * (c ^ j % h) < P2 16384) := Lib.hid (HX.out.tl)
    refine (Mul_any ⟨_, rfl, xu⟩ ⟨_, rfl, xv⟩ 16384 (by omega) HX.out.ul HX.out.vl).mono ?_
    rintro e w18 ⟨v_, rfl, j_, b⟩
    rw [Ft.out, if_pos rfl] at j_
    rw [Ft.out]
    replace hB := nextB hB b
    replace ia := ia.below b
    replace ii := ii.below b
    replace ik := ik.below b
    replace im := im.below b
    replace xx := xx.below b
    replace xz := xz.below b
    replace kx := kx.below b
    replace kz := kz.below b
    replace xp := xp.below b
    replace xq := xq.below b
    replace kp := kp.below b
    replace kq := kq.below b
    replace xs := xs.below b
    replace ks := ks.below b
    replace xu := xu.below b
    replace ku := ku.below b
    replace xv := xv.below b
    replace kv := kv.below b
    replace xw := xw.below b
    replace kw := kw.below b
    clear b
    obtain ⟨aot, qt, capt, rfl, xt⟩ := j_.slice
    clear j_
    obtain ⟨b, kt⟩ := pro1 w18 (.slice aot qt capt)
    obtain ⟨Rt, hRt⟩ : ∃ R, R = w18.heap.size := ⟨_, rfl⟩
    have cc0 := (kx.below b).cell
    have cc1 := (kz.below b).cell
    have cc2 := (kp.below b).cell
    have cc3 := (kq.below b).cell
    have cc4 := (ks.below b).cell
    have cc5 := (ku.below b).cell
    have cc6 := (kv.below b).cell
    have cc7 := (kw.below b).cell
    have cc8 := kt.cell
    go_wp2_with fail
    obtain ⟨w19, hw⟩ : ∃ w_ : World, w_ = (w18.alloc (.cells #[.slice aot qt capt] 25)) := ⟨_, rfl⟩
    rw [← hw] at b kt ⊢
    rw [← hRt] at kt ⊢
    clear hw hRt cc0 cc1 cc2 cc3 cc4 cc5 cc6 cc7 cc8
    replace hB := nextB hB b
    replace ia := ia.below b
    replace ii := ii.below b
    replace ik := ik.below b
    replace im := im.below b
    replace xx := xx.below b
    replace xz := xz.below b
    replace kx := kx.below b
    replace kz := kz.below b
    replace xp := xp.below b
    replace xq := xq.below b
    replace kp := kp.below b
    replace kq := kq.below b
    replace xs := xs.below b
    replace ks := ks.below b
    replace xu := xu.below b
    replace ku := ku.below b
    replace xv := xv.below b
    replace kv := kv.below b
    replace xw := xw.below b
    replace kw := kw.below b
    replace xt := xt.below b
    clear b
    refine (DivMod_any ⟨_, rfl, xt⟩ ⟨_, rfl, xz⟩ HN.out 16384 (by omega) Bt.out).mono ?_
    rintro e w20 ⟨u1, u2, rfl, j1, j2, b⟩
    replace hB := nextB hB b
    replace ia := ia.below b
    replace ii := ii.below b
    replace ik := ik.below b
    replace im := im.below b
    replace xx := xx.below b
    replace xz := xz.below b
    replace kx := kx.below b
    replace kz := kz.below b
    replace xp := xp.below b
    replace xq := xq.below b
    replace kp := kp.below b
    replace kq := kq.below b
    replace xs := xs.below b
    replace ks := ks.below b
    replace xu := xu.below b
    replace ku := ku.below b
    replace xv := xv.below b
    replace kv := kv.below b
    replace xw := xw.below b
    replace kw := kw.below b
    replace xt := xt.below b
    replace kt := kt.below b
    clear b
    obtain ⟨aog, qg, capg, rfl, xg⟩ := j1.slice
    clear j1
    obtain ⟨aor, qr, capr, rfl, xr⟩ := j2.slice
    clear j2
    obtain ⟨b, kg, kr⟩ := pro2 w20 (.slice aog qg capg) (.slice aor qr capr)
    obtain ⟨Rg, hRg⟩ : ∃ R, R = w20.heap.size := ⟨_, rfl⟩
    have cc0 := (kx.below b).cell
    have cc1 := (kz.below b).cell
    have cc2 := (kp.below b).cell
    have cc3 := (kq.below b).cell
    have cc4 := (ks.below b).cell
    have cc5 := (ku.below b).cell
    have cc6 := (kv.below b).cell
    have cc7 := (kw.below b).cell
    have cc8 := (kt.below b).cell
    have cc9 := kg.cell
    have cc10 := kr.cell
    go_wp2_with fail
    obtain ⟨w21, hw⟩ : ∃ w_ : World, w_ = ((w20.alloc (.cells #[.slice aog qg capg] 25)).alloc (.cells #[.slice aor qr capr] 25)) := ⟨_, rfl⟩
    rw [← hw] at b kg kr ⊢
    rw [← hRg] at kg kr ⊢
    clear hw hRg cc0 cc1 cc2 cc3 cc4 cc5 cc6 cc7 cc8 cc9 cc10
    replace hB := nextB hB b
    replace ia := ia.below b
    replace ii := ii.below b
    replace ik := ik.below b
    replace im := im.below b
    replace xx := xx.below b
    replace xz := xz.below b
    replace kx := kx.below b
    replace kz := kz.below b
    replace xp := xp.below b
    replace xq := xq.below b
    replace kp := kp.below b
    replace kq := kq.below b
    replace xs := xs.below b
    replace ks := ks.below b
    replace xu := xu.below b
    replace ku := ku.below b
    replace xv := xv.below b
    replace kv := kv.below b
    replace xw := xw.below b
    replace kw := kw.below b
    replace xt := xt.below b
    replace kt := kt.below b
    replace xg := xg.below b
    replace xr := xr.below b
    clear b
    refine (Cmp_any ⟨_, rfl, xr⟩ ⟨_, rfl, xw⟩).mono ?_
    rintro e w22 ⟨rfl, b⟩
    rw [HX.out.eq, cmpI_self]
    replace hB := nextB hB b
    replace ia := ia.below b
    replace ii := ii.below b
    replace ik := ik.below b
    replace im := im.below b
    replace xx := xx.below b
    replace xz := xz.below b
    replace kx := kx.below b
    replace kz := kz.below b
    replace xp := xp.below b
    replace xq := xq.below b
    replace kp := kp.below b
    replace kq := kq.below b
    replace xs := xs.below b
    replace ks := ks.below b
    replace xu := xu.below b
    replace ku := ku.below b
    replace xv := xv.below b
    replace kv := kv.below b
    replace xw := xw.below b
    replace kw := kw.below b
    replace xt := xt.below b
    replace kt := kt.below b
    replace xg := xg.below b
    replace xr := xr.below b
    replace kg := kg.below b
    replace kr := kr.below b
    clear b
    have cc0 := kx.cell
    have cc1 := kz.cell
    have cc2 := kp.cell
    have cc3 := kq.cell
    have cc4 := ks.cell
    have cc5 := ku.cell
    have cc6 := kv.cell
    have cc7 := kw.cell
    have cc8 := kt.cell
    have cc9 := kg.cell
    have cc10 := kr.cell
    go_wp2_with fail
    clear cc0 cc1 cc2 cc3 cc4 cc5 cc6 cc7 cc8 cc9 cc10
    refine (Cmp_any ⟨_, rfl, xw⟩ ⟨_, rfl, xz⟩).mono ?_
    rintro e w23 ⟨rfl, b⟩
    rw [cmpI_lt HX.out.wn]
    replace hB := nextB hB b
    replace ia := ia.below b
    replace ii := ii.below b
    replace ik := ik.below b
    replace im := im.below b
    replace xx := xx.below b
    replace xz := xz.below b
    replace kx := kx.below b
    replace kz := kz.below b
    replace xp := xp.below b
    replace xq := xq.below b
    replace kp := kp.below b
    replace kq := kq.below b
    replace xs := xs.below b
    replace ks := ks.below b
    replace xu := xu.below b
    replace ku := ku.below b
    replace xv := xv.below b
    replace kv := kv.below b
    replace xw := xw.below b
    replace kw := kw.below b
    replace xt := xt.below b
    replace kt := kt.below b
    replace xg := xg.below b
    replace xr := xr.below b
    replace kg := kg.below b
    replace kr := kr.below b
    clear b
    have cc0 := kx.cell
    have cc1 := kz.cell
    have cc2 := kp.cell
    have cc3 := kq.cell
    have cc4 := ks.cell
    have cc5 := ku.cell
    have cc6 := kv.cell
    have cc7 := kw.cell
    have cc8 := kt.cell
    have cc9 := kg.cell
    have cc10 := kr.cell
    go_wp2_with fail
    clear cc0 cc1 cc2 cc3 cc4 cc5 cc6 cc7 cc8 cc9 cc10
    refine (awake_any _).mono ?_
    rintro e w24 ⟨rfl, b⟩
    replace hB := nextB hB b
    replace ia := ia.below b
    replace ii := ii.below b
    replace ik := ik.below b
    replace im := im.below b
    replace xx := xx.below b
    replace xz := xz.below b
    replace kx := kx.below b
    replace kz := kz.below b
    replace xp := xp.below b
    replace xq := xq.below b
    replace kp := kp.below b
    replace kq := kq.below b
    replace xs := xs.below b
    replace ks := ks.below b
    replace xu := xu.below b
    replace ku := ku.below b
    replace xv := xv.below b
    replace kv := kv.below b
    replace xw := xw.below b
    replace kw := kw.below b
    replace xt := xt.below b
    replace kt := kt.below b
    replace xg := xg.below b
    replace xr := xr.below b
    replace kg := kg.below b
    replace kr := kr.below b
    clear b
    go_wp2
    go_ret
    exact ⟨rfl, hB⟩

end Go.Proofs.Ytppbhjhbaknidaa
