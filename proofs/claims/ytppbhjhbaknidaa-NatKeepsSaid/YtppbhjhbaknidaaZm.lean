/-
  The contract of the program's Inverse. Condition: numbers of at most 2^14 bits. The walk of the law NatInverses. No condition.
-/
import Derived.Test.YtppbhjhbaknidaaZl
set_option linter.unusedVariables false
set_option linter.unusedSimpArgs false

/-
  The contract of the program's Inverse. Condition: numbers of at most 2^14 bits.
-/
set_option linter.unusedVariables false
set_option linter.unusedSimpArgs false
namespace Go.Proofs.Ytppbhjhbaknidaa
open Go.RowKit

theorem invNext_lt {m lx back : Nat} (h : lx < back) : invNext m lx back = lx + m - back := if_pos h
theorem invNext_ge {m lx back : Nat} (h : ¬ lx < back) : invNext m lx back = lx - back := if_neg h

set_option maxHeartbeats 400000 in
theorem Inverse_zero {w : World} {va vm : Value} {a : Nat} (ha : IsNat w va a) (hm : IsNat w vm 0) :
    Calls Try.prog 85 #[va, vm] w (RetE w 0 11) := by
  obtain ⟨ao, k, cap, rfl, ia⟩ := ha.slice
  obtain ⟨ao2, k2, cap2, rfl, ib, hk, -⟩ := hm.len
  obtain rfl := hk.2 rfl
  clear ha hm hk
  obtain ⟨hB, ka, kb, kr⟩ := pro3 w (.slice ao k cap) (.slice ao2 0 cap2) (.slice none 0 0)
  go_enter Try.func85, Try.ntmps85
  go_wp2
  refine bodyPost_ret (v := .tuple #[.agg #[.slice none 0 0], .int .i64 (11 : Nat)]) (by simp [results, Try.results85, go_sem]) rfl ⟨_, rfl, IsNat.zero _, hB⟩

/-- What Inverse returns of a modulo m. -/
def RetInv (w : World) (a m : Nat) (e : Ending) (w' : World) : Prop := ∃ x, Hid (x < m ∧ (Nat.gcd a m = 1 → a * x % m = 1 % m)) ∧ RetE w x (if Nat.gcd a m = 1 then 0 else 12) e w'

set_option maxHeartbeats 4000000 in
set_option maxRecDepth 100000 in
theorem Inverse_any {w : World} {va vm : Value} {a m : Nat} (ha : IsNat w va a) (hm : IsNat w vm m) (hm0 : 0 < m) (L : Nat) (hL : L ≤ 16384) (hal : a < P2 L) (hml : m < P2 L) :
    Calls Try.prog 85 #[va, vm] w (RetInv w a m) := by
  obtain ⟨ao, k, cap, rfl, ia⟩ := ha.slice
  obtain ⟨ao2, k2, cap2, rfl, ib, hk, -⟩ := hm.len
  have hd : ((k2 : Int) == 0) = false := by
    rw [beq_eq_false_iff_ne]; intro hc; have := hk.1 (by omega); omega
  clear ha hm hk
  obtain ⟨hB, ka, kb, kr⟩ := pro3 w (.slice ao k cap) (.slice ao2 k2 cap2) (.slice none 0 0)
  have ia := ia.below hB
  have ib := ib.below hB
  have HA := Lib.hid hal
  have HM := Lib.hid hml
  have HM0 := Lib.hid hm0
  have HMod := Lib.hid (fun x => Nat.mod_lt x hm0)
  have HI := Lib.hid (InvL.start (A := a) hm0)
  have HW := Lib.hid (fun w_ => words_any 1 w_ (by omega) (by omega))
  have HD := Lib.hid (fun w_ v_ u_ n (h1 : IsN w_ v_ n) (h2 : IsN w_ u_ m) (hn : n < P2 (L + L)) => divMod_any h1 h2 hm0 (L + L) (by omega) hn)
  have H1 := Lib.hid (show (1 : Int).toNat < P2 (L + L) from lt_P2_mono (show 1 < P2 L by omega) (by omega))
  have c0 := kb.cell
  have c1 := ka.cell
  clear hal hml hm0
  go_enter Try.func85, Try.ntmps85
  go_wp2_with fail
  clear c0 c1
  obtain ⟨wo, hw⟩ : ∃ w_ : World, w_ = (((w.alloc (.cells #[.slice ao k cap] 25)).alloc (.cells #[.slice ao2 k2 cap2] 25)).alloc (.cells #[.slice none 0 0] 25)) := ⟨_, rfl⟩
  rw [← hw] at ia ib ka kb kr hB ⊢
  clear hw
  refine (divMod_any ia ib HM0.out L (by omega) HA.out).mono ?_
  rintro e w1 ⟨v1, v2, rfl, i1, i2, b⟩
  replace ia := ia.below b
  replace ib := ib.below b
  replace ka := ka.below b
  replace kb := kb.below b
  replace kr := kr.below b
  replace hB := nextB hB b
  clear b
  clear i1
  have c1 := kb.cell
  go_wp2_with fail
  clear c1
  obtain ⟨wz, hw_⟩ : ∃ w_ : World, w_ = w1 := ⟨_, rfl⟩
  rw [← hw_] at ia ib ka kb kr i2 hB ⊢
  clear hw_
  have cc0 := kb.cell
  have lt0 := kb.lt
  go_region_held3 (fun w' => w'.cell? ⟨w.heap.size + 1, 0, none⟩ = some (.slice ao2 k2 cap2) ∧ Below wz.heap.size wz w')
    (first
      | exact ⟨cc0, (Below.refl _ _).drew⟩
      | (go_split_ands; exact ⟨by assumption, by assumption⟩)
      | (go_split_ands; have hk := nextB (by assumption) bb; exact ⟨(hk.cell (p := ⟨w.heap.size + 1, 0, none⟩) lt0).trans cc0, hk⟩))
    (first
      | (go_at_call 101; go_split_ands; refine (HW.out _).mono ?_; rintro e wq ⟨v3, rfl, i3, bb⟩)
      | (go_at_call 111; go_split_ands; refine (HD.out _ _ _ _ (by assumption) (ib.below (by assumption)) H1.out).mono ?_; rintro e wq ⟨v3, v4, rfl, i3, i4, bb⟩))
  go_split_ands
  have b : Below wz.heap.size wz wq := by assumption
  obtain ⟨w2, hw_⟩ : ∃ w_ : World, w_ = wq := ⟨_, rfl⟩
  rw [← hw_] at b i4 ⊢
  clear hw_
  replace ia := ia.below b
  replace ib := ib.below b
  replace ka := ka.below b
  replace kb := kb.below b
  replace kr := kr.below b
  replace i2 := i2.below b
  replace hB := nextB hB b
  clear b
  rw [show (1 : Int).toNat = 1 from rfl] at i4
  have i4' : IsN w2 v4 (1 % m) := i4
  clear i4 H1 cc0
  have i0 : IsN w2 (.slice none 0 0) 0 := IsN.zero _
  obtain ⟨wp, hw_⟩ : ∃ w_ : World, w_ = w2 := ⟨_, rfl⟩
  rw [← hw_] at ia ib ka kb kr i2 i4' i0 hB ⊢
  clear hw_
  go_wp2
  go_loopg [7, 8, 9, 11] (a % m) (fun g r last lastX x wr => ∃ ln lx xn : Nat, IsN wr r g ∧ IsN wr last ln ∧ IsN wr lastX lx ∧ IsN wr x xn ∧ Hid (InvL a m ln g lx xn) ∧ Below wp.heap.size wp wr)
  case atStart => exact ⟨m, 0, 1 % m, i2, ib, i0, i4', HI, Below.refl _ _⟩
  case round =>
    obtain ⟨ln, lx, xn, ir, il, jx, ix, hi, hb⟩ := hrel
    clear i2 i4' i0
    obtain ⟨ao4, k4, cap4, rfl, hk4, hk4b⟩ := ir.len
    by_cases hg0 : gk = 0
    · obtain rfl := hk4.2 hg0
      subst hg0
      have hlast := hi.out.done
      have HLX := Lib.hid hi.out.lx
      clear hk4
      have b := hb
      replace ia := ia.below b
      replace ib := ib.below b
      replace ka := ka.below b
      replace kb := kb.below b
      replace kr := kr.below b
      replace hB := nextB hB b
      clear b
      go_wp2_with fail
      refine (words_any 1 _ (by omega) (by omega)).mono ?_
      rintro e w3 ⟨v5, rfl, i5, b⟩
      rw [show (1 : Int).toNat = 1 from rfl] at i5
      replace il := il.below b
      replace jx := jx.below b
      replace ia := ia.below b
      replace ib := ib.below b
      replace ka := ka.below b
      replace kb := kb.below b
      replace kr := kr.below b
      replace hB := nextB hB b
      clear b
      go_wp2_with fail
      refine (cmp_any il i5).mono ?_
      rintro e w4 ⟨rfl, b⟩
      replace jx := jx.below b
      replace ia := ia.below b
      replace ib := ib.below b
      replace ka := ka.below b
      replace kb := kb.below b
      replace kr := kr.below b
      replace hB := nextB hB b
      clear b
      clear il i5 ir ix
      by_cases hg1 : Nat.gcd a m = 1
      · have h1 : ln = 1 := by rw [hlast.1, hg1]
        have HX := Lib.hid (hlast.2 h1)
        rw [h1, show cmpI 1 1 = 0 from rfl]
        clear hlast h1
        have HG1 := Lib.hid hg1
        clear hg1
        have c1 := kb.cell
        go_wp2_with fail
        refine (divMod_any jx ib HM0.out L (by omega) (Nat.lt_trans HLX.out HM.out)).mono ?_
        rintro e w5 ⟨v6, v7, rfl, i6, i7, b⟩
        rw [Nat.mod_eq_of_lt HLX.out] at i7
        clear c1
        replace ia := ia.below b
        replace ib := ib.below b
        replace ka := ka.below b
        replace kb := kb.below b
        replace kr := kr.below b
        replace hB := nextB hB b
        clear b
        have c1 := kr.cell
        have f1 := kr.free
        obtain ⟨ao9, k9, cap9, rfl⟩ := i7.slice
        go_wp2
        refine bodyPost_ret (v := .tuple #[.agg #[.slice ao9 k9 cap9], .int .i64 (0 : Nat)]) (by simp [results, Try.results85, go_sem, c1]) rfl ⟨lx, Lib.hid ⟨HLX.out, fun _ => HX.out⟩, _, by rw [if_pos HG1.out], ⟨_, rfl, by rw [if_pos HG1.out, if_pos rfl]; exact i7.setBx kr NoInt.one _⟩, hB.setCell (by simp; omega) _⟩
      · have h1 : ln ≠ 1 := by rw [hlast.1]; exact hg1
        have hz : ((cmpI ln 1 : Int) != 0) = true := by
          rw [bne_iff_ne]
          unfold cmpI
          split
          · omega
          · split
            · omega
            · omega
        clear hlast h1
        have HG1 := Lib.hid hg1
        clear hg1
        have c1 := kr.cell
        have f1 := kr.free
        go_wp2
        refine bodyPost_ret (v := .tuple #[.agg #[.slice none 0 0], .int .i64 (12 : Nat)]) (by simp [results, Try.results85, go_sem, c1]) rfl ⟨0, Lib.hid ⟨HM0.out, fun h => absurd h HG1.out⟩, _, by rw [if_neg HG1.out], by rw [if_neg HG1.out, if_neg (by omega)]; exact IsNat.zero _, hB.setCell (by simp; omega) _⟩
    · have hk40 : 0 < k4 := Nat.pos_of_ne_zero (fun h => hg0 (hk4.1 h))
      have HG0 := Lib.hid (Nat.pos_of_ne_zero hg0)
      have HN := Lib.hid (hi.out.step HM0.out HG0.out)
      have HLe := Lib.hid hi.out.le
      have HLX := Lib.hid hi.out.lx
      have HXM := Lib.hid hi.out.xm
      have hgl := Nat.mod_lt ln HG0.out
      clear hg0 hk4 hi
      have b := hb
      replace ia := ia.below b
      replace ib := ib.below b
      replace ka := ka.below b
      replace kb := kb.below b
      replace kr := kr.below b
      replace hB := nextB hB b
      clear b
      go_wp2_with fail
      refine (divMod_any il ir HG0.out L (by omega) (Nat.lt_of_le_of_lt HLe.out.1 HM.out)).mono ?_
      rintro e w3 ⟨v5, v6, rfl, i5, i6, b⟩
      replace ir := ir.below b
      replace jx := jx.below b
      replace ix := ix.below b
      replace ia := ia.below b
      replace ib := ib.below b
      replace ka := ka.below b
      replace kb := kb.below b
      replace kr := kr.below b
      replace hb := nextB hb b
      replace hB := nextB hB b
      clear b
      clear il
      have HQ := Lib.hid (mul_lt_P2 (Nat.lt_of_le_of_lt (Nat.div_le_self ln gk) (Nat.lt_of_le_of_lt HLe.out.1 HM.out)) (Nat.lt_trans HXM.out HM.out))
      have HQ1 := Lib.hid (Nat.lt_of_le_of_lt (Nat.div_le_self ln gk) (Nat.lt_of_le_of_lt HLe.out.1 HM.out))
      generalize ln / gk = q at *
      generalize ln % gk = rest at *
      obtain ⟨wx, hw_⟩ : ∃ w_ : World, w_ = w3 := ⟨_, rfl⟩
      rw [← hw_] at ia ib ka kb kr ir jx ix i5 i6 hB hb ⊢
      clear hw_
      go_wp2
      have cc0 := kb.cell
      have lt0 := kb.lt
      go_region_held3 (fun w' => w'.cell? ⟨w.heap.size + 1, 0, none⟩ = some (.slice ao2 k2 cap2) ∧ Below wx.heap.size wx w')
        (first
          | exact ⟨cc0, (Below.refl _ _).drew⟩
          | (go_split_ands; exact ⟨by assumption, by assumption⟩)
          | (go_split_ands; have hk := nextB (by assumption) bb; exact ⟨(hk.cell (p := ⟨w.heap.size + 1, 0, none⟩) lt0).trans cc0, hk⟩))
        (first
          | (go_at_call 100; go_split_ands; refine (mul_any (i5.below (by assumption)) (ix.below (by assumption)) L (by omega) HQ1.out (Nat.lt_trans HXM.out HM.out)).mono ?_; rintro e wq ⟨v7, rfl, i7, bb⟩)
          | (go_at_call 111; go_split_ands; refine (HD.out _ _ _ _ (by assumption) (ib.below (by assumption)) HQ.out).mono ?_; rintro e wq ⟨v7, v8, rfl, i7, i8, bb⟩))
      go_split_ands
      have b : Below wx.heap.size wx wq := by assumption
      obtain ⟨w4, hw_⟩ : ∃ w_ : World, w_ = wq := ⟨_, rfl⟩
      rw [← hw_] at b i8 ⊢
      clear hw_
      have i8' : IsN w4 v8 (q * xn % m) := i8
      clear i8 cc0
      have HBk := Lib.hid (HMod.out (q * xn))
      generalize q * xn % m = back at *
      replace ir := ir.below b
      replace jx := jx.below b
      replace ix := ix.below b
      replace i6 := i6.below b
      replace ia := ia.below b
      replace ib := ib.below b
      replace ka := ka.below b
      replace kb := kb.below b
      replace kr := kr.below b
      replace hb := nextB hb b
      replace hB := nextB hB b
      clear b
      clear i5
      go_wp2_with fail
      refine (cmp_any jx i8').mono ?_
      rintro e w5 ⟨rfl, b⟩
      replace ir := ir.below b
      replace jx := jx.below b
      replace ix := ix.below b
      replace i6 := i6.below b
      replace i8' := i8'.below b
      replace ia := ia.below b
      replace ib := ib.below b
      replace ka := ka.below b
      replace kb := kb.below b
      replace kr := kr.below b
      replace hb := nextB hb b
      replace hB := nextB hB b
      clear b
      by_cases hlt : lx < back
      · rw [cmpI_lt hlt]
        rw [invNext_lt hlt] at HN
        have HLT := Lib.hid (show back ≤ lx + m by have := HBk.out; omega)
        clear hlt
        have c1 := kb.cell
        go_wp2_with fail
        refine (add_any jx ib L (by omega) (Nat.lt_trans HLX.out HM.out) HM.out).mono ?_
        rintro e w6 ⟨v9, rfl, i9, b⟩
        clear c1
        replace ir := ir.below b
        replace ix := ix.below b
        replace i6 := i6.below b
        replace i8' := i8'.below b
        replace ia := ia.below b
        replace ib := ib.below b
        replace ka := ka.below b
        replace kb := kb.below b
        replace kr := kr.below b
        replace hb := nextB hb b
        replace hB := nextB hB b
        clear b
        clear jx
        go_wp2_with fail
        refine (sub_any i9 i8' (L + 1) (by omega) (add_lt_P2 (Nat.lt_trans HLX.out HM.out) HM.out) HLT.out).mono ?_
        rintro e w7 ⟨v10, rfl, i10, b⟩
        replace ir := ir.below b
        replace ix := ix.below b
        replace i6 := i6.below b
        replace ia := ia.below b
        replace ib := ib.below b
        replace ka := ka.below b
        replace kb := kb.below b
        replace kr := kr.below b
        replace hb := nextB hb b
        replace hB := nextB hB b
        clear b
        clear i9 i8'
        go_wp2
        go_roundg rest
        case measure => exact hgl
        case rel => exact ⟨gk, xn, lx + m - back, i6, ir, ix, i10, HN, hb⟩
      · have hz := decide_eq_false (show ¬ cmpI lx back < 0 by have := cmpI_ge (show back ≤ lx by omega); omega)
        rw [invNext_ge hlt] at HN
        have HLT := Lib.hid (show back ≤ lx by omega)
        clear hlt
        go_wp2_with fail
        refine (sub_any jx i8' L (by omega) (Nat.lt_trans HLX.out HM.out) HLT.out).mono ?_
        rintro e w7 ⟨v10, rfl, i10, b⟩
        replace ir := ir.below b
        replace ix := ix.below b
        replace i6 := i6.below b
        replace ia := ia.below b
        replace ib := ib.below b
        replace ka := ka.below b
        replace kb := kb.below b
        replace kr := kr.below b
        replace hb := nextB hb b
        replace hB := nextB hB b
        clear b
        clear jx i8'
        go_wp2
        go_roundg rest
        case measure => exact hgl
        case rel => exact ⟨gk, xn, lx - back, i6, ir, ix, i10, HN, hb⟩

end Go.Proofs.Ytppbhjhbaknidaa

/-
  The walk of the law NatInverses. No condition.
-/
set_option linter.unusedVariables false
set_option linter.unusedSimpArgs false
namespace Go.Proofs.Ytppbhjhbaknidaa
open Go.RowKit

theorem cmpI_ne1 {a : Nat} (h : a ≠ 1) : (cmpI a 1 : Int) ≠ 0 := by
  unfold cmpI
  split
  · omega
  · split
    · omega
    · omega

set_option maxHeartbeats 8000000 in
set_option maxRecDepth 100000 in
theorem NatInverses_walk (va : Value) (vm : Value) (w : World) (ia : In16 w va) (im : In16 w vm) :
    Calls Try.prog 22 #[va, vm] w (RetB w true) := by
  have hB := Below.refl w.heap.size w
  go_enter Try.func22, Try.ntmps22
  go_wp2_with fail
  refine (raw_any ia 24 (by omega)).mono ?_
  rintro e w1 ⟨c, hc, rc, rfl, icr, b⟩
  replace hB := nextB hB b
  replace ia := ia.below b
  replace im := im.below b
  clear b
  have Hc := Lib.hid hc
  clear hc
  go_wp2_with fail
  refine (raw_any im 24 (by omega)).mono ?_
  rintro e w2 ⟨k, hk, rk, rfl, ikr, b⟩
  replace hB := nextB hB b
  replace ia := ia.below b
  replace im := im.below b
  replace icr := icr.below b
  clear b
  have Hk := Lib.hid hk
  clear hk
  have Hc := Lib.hid (lt_P2_mono Hc.out (show 16 * 24 ≤ 16384 by omega))
  have Hk := Lib.hid (lt_P2_mono Hk.out (show 16 * 24 ≤ 16384 by omega))
  go_wp2_with fail
  refine (two_any icr ikr Hc.out Hk.out).mono ?_
  rintro e w3 ⟨u1, u2, rfl, j1, j2, b⟩
  obtain ⟨aox, qx, capx, rfl, xx⟩ := j1.slice
  clear j1
  obtain ⟨aoy, qy, capy, rfl, xy⟩ := j2.slice
  clear j2
  replace hB := nextB hB b
  replace ia := ia.below b
  replace im := im.below b
  replace icr := icr.below b
  replace ikr := ikr.below b
  clear b
  obtain ⟨b, kx, ky⟩ := pro2 w3 (.slice aox qx capx) (.slice aoy qy capy)
  obtain ⟨Rx, hRx⟩ : ∃ R, R = w3.heap.size := ⟨_, rfl⟩
  have cc0 := kx.cell
  have cc1 := ky.cell
  go_wp2_with fail
  obtain ⟨w4, hw⟩ : ∃ w_ : World, w_ = ((w3.alloc (.cells #[.slice aox qx capx] 25)).alloc (.cells #[.slice aoy qy capy] 25)) := ⟨_, rfl⟩
  rw [← hw] at b kx ky ⊢
  rw [← hRx] at kx ky ⊢
  clear hw hRx cc0 cc1
  replace hB := nextB hB b
  replace ia := ia.below b
  replace im := im.below b
  replace icr := icr.below b
  replace ikr := ikr.below b
  replace xx := xx.below b
  replace xy := xy.below b
  clear b
  obtain ⟨aok, qk, capk, rfl, hqk, -⟩ := ikr.slice
  by_cases hk0 : k = 0
  · obtain rfl := hqk.2 hk0
    subst hk0
    clear hqk
    refine (Inverse_zero ⟨_, rfl, xx⟩ ⟨_, rfl, xy⟩).mono ?_
    rintro e w5 ⟨v_, rfl, j_, b⟩
    rw [if_neg (by omega)] at j_
    replace hB := nextB hB b
    replace ia := ia.below b
    replace im := im.below b
    replace icr := icr.below b
    replace ikr := ikr.below b
    replace xx := xx.below b
    replace xy := xy.below b
    replace kx := kx.below b
    replace ky := ky.below b
    clear b
    obtain ⟨aoz, qz, capz, rfl, xz⟩ := j_.slice
    clear j_
    obtain ⟨b, kz⟩ := pro1 w5 (.slice aoz qz capz)
    obtain ⟨Rz, hRz⟩ : ∃ R, R = w5.heap.size := ⟨_, rfl⟩
    have cc0 := (kx.below b).cell
    have cc1 := (ky.below b).cell
    have cc2 := kz.cell
    go_wp2_with fail
    obtain ⟨w6, hw⟩ : ∃ w_ : World, w_ = (w5.alloc (.cells #[.slice aoz qz capz] 25)) := ⟨_, rfl⟩
    rw [← hw] at b kz ⊢
    rw [← hRz] at kz ⊢
    clear hw hRz cc0 cc1 cc2
    replace hB := nextB hB b
    replace ia := ia.below b
    replace im := im.below b
    replace icr := icr.below b
    replace ikr := ikr.below b
    replace xx := xx.below b
    replace xy := xy.below b
    replace kx := kx.below b
    replace ky := ky.below b
    replace xz := xz.below b
    clear b
    refine (told_err (er := 11) ⟨_, rfl, xz⟩ (by omega) (by omega) ⟨_, _, _, rfl⟩).mono ?_
    rintro e w7 ⟨rfl, b⟩
    replace hB := nextB hB b
    replace ia := ia.below b
    replace im := im.below b
    replace icr := icr.below b
    replace ikr := ikr.below b
    replace xx := xx.below b
    replace xy := xy.below b
    replace kx := kx.below b
    replace ky := ky.below b
    replace xz := xz.below b
    replace kz := kz.below b
    clear b
    have cc0 := kx.cell
    have cc1 := ky.cell
    have cc2 := kz.cell
    go_wp2_with fail
    clear cc0 cc1 cc2
    refine (awake_any _).mono ?_
    rintro e w8 ⟨rfl, b⟩
    replace hB := nextB hB b
    replace ia := ia.below b
    replace im := im.below b
    replace icr := icr.below b
    replace ikr := ikr.below b
    replace xx := xx.below b
    replace xy := xy.below b
    replace kx := kx.below b
    replace ky := ky.below b
    replace xz := xz.below b
    replace kz := kz.below b
    clear b
    go_wp2
    go_ret
    exact ⟨rfl, hB⟩
  · have hqk0 : ((qk : Int) == 0) = false := by rw [beq_eq_false_iff_ne]; intro hh; exact hk0 (hqk.1 (by omega))
    have HK0 := Lib.hid (Nat.pos_of_ne_zero hk0)
    clear hqk hk0
    refine (Inverse_any ⟨_, rfl, xx⟩ ⟨_, rfl, xy⟩ HK0.out 16384 (by omega) Hc.out Hk.out).mono ?_
    rintro e w5 ⟨z, hz, v_, rfl, j_, b⟩
    replace hB := nextB hB b
    replace ia := ia.below b
    replace im := im.below b
    replace icr := icr.below b
    replace ikr := ikr.below b
    replace xx := xx.below b
    replace xy := xy.below b
    replace kx := kx.below b
    replace ky := ky.below b
    clear b
    by_cases hg : Nat.gcd c k = 1
    · rw [if_pos hg, if_pos rfl] at j_
      rw [if_pos hg]
      have HZ := Lib.hid (Nat.lt_trans hz.out.1 Hk.out)
      have HZK := Lib.hid hz.out.1
      have HEq := Lib.hid (hz.out.2 hg)
      have HGG := Lib.hid hg
      clear hz hg
      have HP := Lib.hid (lt_P2_mono (mul_lt_P2 Hc.out HZ.out) (show 16384 + 16384 ≤ 32768 by omega))
      have HK2 := Lib.hid (lt_P2_mono Hk.out (show 16384 ≤ 32768 by omega))
      have H1 := Lib.hid (show 1 < P2 32768 from lt_P2_mono (show 1 < P2 1 by unfold P2; omega) (by omega))
      obtain ⟨aoz, qz, capz, rfl, xz⟩ := j_.slice
      clear j_
      obtain ⟨b, kz⟩ := pro1 w5 (.slice aoz qz capz)
      obtain ⟨Rz, hRz⟩ : ∃ R, R = w5.heap.size := ⟨_, rfl⟩
      have cc0 := (kx.below b).cell
      have cc1 := (ky.below b).cell
      have cc2 := kz.cell
      go_wp2_with fail
      obtain ⟨w6, hw⟩ : ∃ w_ : World, w_ = (w5.alloc (.cells #[.slice aoz qz capz] 25)) := ⟨_, rfl⟩
      rw [← hw] at b kz ⊢
      rw [← hRz] at kz ⊢
      clear hw hRz cc0 cc1 cc2
      replace hB := nextB hB b
      replace ia := ia.below b
      replace im := im.below b
      replace icr := icr.below b
      replace ikr := ikr.below b
      replace xx := xx.below b
      replace xy := xy.below b
      replace kx := kx.below b
      replace ky := ky.below b
      replace xz := xz.below b
      clear b
      refine (gcdR_any icr ikr 16384 (by omega) Hc.out Hk.out).mono ?_
      rintro e w7 ⟨vg, rfl, ig, b⟩
      rw [HGG.out] at ig
      replace hB := nextB hB b
      replace ia := ia.below b
      replace im := im.below b
      replace icr := icr.below b
      replace ikr := ikr.below b
      replace xx := xx.below b
      replace xy := xy.below b
      replace kx := kx.below b
      replace ky := ky.below b
      replace xz := xz.below b
      replace kz := kz.below b
      clear b
      have cc0 := kx.cell
      have cc1 := ky.cell
      have cc2 := kz.cell
      go_wp2_with fail
      clear cc0 cc1 cc2
      refine (of_any 1 (by omega) _).mono ?_
      rintro e w8 ⟨vo, rfl, io, b⟩
      replace hB := nextB hB b
      replace ia := ia.below b
      replace im := im.below b
      replace icr := icr.below b
      replace ikr := ikr.below b
      replace xx := xx.below b
      replace xy := xy.below b
      replace kx := kx.below b
      replace ky := ky.below b
      replace xz := xz.below b
      replace kz := kz.below b
      replace ig := ig.below b
      clear b
      have cc0 := kx.cell
      have cc1 := ky.cell
      have cc2 := kz.cell
      go_wp2_with fail
      clear cc0 cc1 cc2
      refine (cmpR_any ig io).mono ?_
      rintro e w9 ⟨rfl, b⟩
      rw [show cmpI 1 1 = 0 from rfl]
      replace hB := nextB hB b
      replace ia := ia.below b
      replace im := im.below b
      replace icr := icr.below b
      replace ikr := ikr.below b
      replace xx := xx.below b
      replace xy := xy.below b
      replace kx := kx.below b
      replace ky := ky.below b
      replace xz := xz.below b
      replace kz := kz.below b
      replace ig := ig.below b
      replace io := io.below b
      clear b
      clear ig io
      have cc0 := kx.cell
      have cc1 := ky.cell
      have cc2 := kz.cell
      go_wp2_with fail
      clear cc0 cc1 cc2
      refine (String_any ⟨_, rfl, xz⟩ 16384 (by omega) HZ.out).mono ?_
      rintro e w10 ⟨rfl, b⟩
      replace hB := nextB hB b
      replace ia := ia.below b
      replace im := im.below b
      replace icr := icr.below b
      replace ikr := ikr.below b
      replace xx := xx.below b
      replace xy := xy.below b
      replace kx := kx.below b
      replace ky := ky.below b
      replace xz := xz.below b
      replace kz := kz.below b
      clear b
      have cc0 := kx.cell
      have cc1 := ky.cell
      have cc2 := kz.cell
      go_wp2_with fail
      clear cc0 cc1 cc2
      refine (parseR_any (txt z) _ (txt_sz HZ.out)).mono ?_
      rintro e w11 ⟨v1, rfl, ip, b⟩
      rw [parseE_txt HZ.out, numOf_txt, if_pos rfl] at ip
      rw [parseE_txt HZ.out]
      replace hB := nextB hB b
      replace ia := ia.below b
      replace im := im.below b
      replace icr := icr.below b
      replace ikr := ikr.below b
      replace xx := xx.below b
      replace xy := xy.below b
      replace kx := kx.below b
      replace ky := ky.below b
      replace xz := xz.below b
      replace kz := kz.below b
      clear b
      have cc0 := kx.cell
      have cc1 := ky.cell
      have cc2 := kz.cell
      go_wp2_with fail
      clear cc0 cc1 cc2
      refine (of_any 1 (by omega) _).mono ?_
      rintro e w12 ⟨vo, rfl, io, b⟩
      replace hB := nextB hB b
      replace ia := ia.below b
      replace im := im.below b
      replace icr := icr.below b
      replace ikr := ikr.below b
      replace xx := xx.below b
      replace xy := xy.below b
      replace kx := kx.below b
      replace ky := ky.below b
      replace xz := xz.below b
      replace kz := kz.below b
      replace ip := ip.below b
      clear b
      have cc0 := kx.cell
      have cc1 := ky.cell
      have cc2 := kz.cell
      go_wp2_with fail
      clear cc0 cc1 cc2
      refine (divModR_any io ikr HK0.out 32768 (by omega) H1.out HK2.out).mono ?_
      rintro e w13 ⟨vq, vr, rfl, iq, ir, b⟩
      clear iq
      replace hB := nextB hB b
      replace ia := ia.below b
      replace im := im.below b
      replace icr := icr.below b
      replace ikr := ikr.below b
      replace xx := xx.below b
      replace xy := xy.below b
      replace kx := kx.below b
      replace ky := ky.below b
      replace xz := xz.below b
      replace kz := kz.below b
      replace ip := ip.below b
      replace io := io.below b
      clear b
      have cc0 := kx.cell
      have cc1 := ky.cell
      have cc2 := kz.cell
      go_wp2_with fail
      clear cc0 cc1 cc2
      refine (mulR_any icr ip 16384 (by omega) Hc.out HZ.out).mono ?_
      rintro e w14 ⟨vm, rfl, iu, b⟩
      replace hB := nextB hB b
      replace ia := ia.below b
      replace im := im.below b
      replace icr := icr.below b
      replace ikr := ikr.below b
      replace xx := xx.below b
      replace xy := xy.below b
      replace kx := kx.below b
      replace ky := ky.below b
      replace xz := xz.below b
      replace kz := kz.below b
      replace ip := ip.below b
      replace io := io.below b
      replace ir := ir.below b
      clear b
      have cc0 := kx.cell
      have cc1 := ky.cell
      have cc2 := kz.cell
      go_wp2_with fail
      clear cc0 cc1 cc2
      refine (divModR_any iu ikr HK0.out 32768 (by omega) HP.out HK2.out).mono ?_
      rintro e w15 ⟨vs, vt, rfl, is, it, b⟩
      clear is
      rw [HEq.out] at it
      replace hB := nextB hB b
      replace ia := ia.below b
      replace im := im.below b
      replace icr := icr.below b
      replace ikr := ikr.below b
      replace xx := xx.below b
      replace xy := xy.below b
      replace kx := kx.below b
      replace ky := ky.below b
      replace xz := xz.below b
      replace kz := kz.below b
      replace ip := ip.below b
      replace io := io.below b
      replace ir := ir.below b
      replace iu := iu.below b
      clear b
      have cc0 := kx.cell
      have cc1 := ky.cell
      have cc2 := kz.cell
      go_wp2_with fail
      clear cc0 cc1 cc2
      refine (cmpR_any ip ikr).mono ?_
      rintro e w16 ⟨rfl, b⟩
      rw [cmpI_lt HZK.out]
      replace hB := nextB hB b
      replace ia := ia.below b
      replace im := im.below b
      replace icr := icr.below b
      replace ikr := ikr.below b
      replace xx := xx.below b
      replace xy := xy.below b
      replace kx := kx.below b
      replace ky := ky.below b
      replace xz := xz.below b
      replace kz := kz.below b
      replace ip := ip.below b
      replace io := io.below b
      replace ir := ir.below b
      replace iu := iu.below b
      replace it := it.below b
      clear b
      have cc0 := kx.cell
      have cc1 := ky.cell
      have cc2 := kz.cell
      go_wp2_with fail
      clear cc0 cc1 cc2
      refine (cmpR_any it ir).mono ?_
      rintro e w17 ⟨rfl, b⟩
      rw [cmpI_self]
      replace hB := nextB hB b
      replace ia := ia.below b
      replace im := im.below b
      replace icr := icr.below b
      replace ikr := ikr.below b
      replace xx := xx.below b
      replace xy := xy.below b
      replace kx := kx.below b
      replace ky := ky.below b
      replace xz := xz.below b
      replace kz := kz.below b
      replace ip := ip.below b
      replace io := io.below b
      replace ir := ir.below b
      replace iu := iu.below b
      replace it := it.below b
      clear b
      have cc0 := kx.cell
      have cc1 := ky.cell
      have cc2 := kz.cell
      go_wp2_with fail
      clear cc0 cc1 cc2
      refine (awake_any _).mono ?_
      rintro e w18 ⟨rfl, b⟩
      replace hB := nextB hB b
      replace ia := ia.below b
      replace im := im.below b
      replace icr := icr.below b
      replace ikr := ikr.below b
      replace xx := xx.below b
      replace xy := xy.below b
      replace kx := kx.below b
      replace ky := ky.below b
      replace xz := xz.below b
      replace kz := kz.below b
      replace ip := ip.below b
      replace io := io.below b
      replace ir := ir.below b
      replace iu := iu.below b
      replace it := it.below b
      clear b
      go_wp2
      go_ret
      exact ⟨rfl, hB⟩
    · rw [if_neg hg, if_neg (by omega)] at j_
      rw [if_neg hg]
      have hne : ((cmpI (Nat.gcd c k) 1 : Int) != 0) = true := by rw [bne_iff_ne]; exact cmpI_ne1 hg
      clear hg hz
      obtain ⟨aoz, qz, capz, rfl, xz⟩ := j_.slice
      clear j_
      obtain ⟨b, kz⟩ := pro1 w5 (.slice aoz qz capz)
      obtain ⟨Rz, hRz⟩ : ∃ R, R = w5.heap.size := ⟨_, rfl⟩
      have cc0 := (kx.below b).cell
      have cc1 := (ky.below b).cell
      have cc2 := kz.cell
      go_wp2_with fail
      obtain ⟨w6, hw⟩ : ∃ w_ : World, w_ = (w5.alloc (.cells #[.slice aoz qz capz] 25)) := ⟨_, rfl⟩
      rw [← hw] at b kz ⊢
      rw [← hRz] at kz ⊢
      clear hw hRz cc0 cc1 cc2
      replace hB := nextB hB b
      replace ia := ia.below b
      replace im := im.below b
      replace icr := icr.below b
      replace ikr := ikr.below b
      replace xx := xx.below b
      replace xy := xy.below b
      replace kx := kx.below b
      replace ky := ky.below b
      replace xz := xz.below b
      clear b
      refine (gcdR_any icr ikr 16384 (by omega) Hc.out Hk.out).mono ?_
      rintro e w7 ⟨vg, rfl, ig, b⟩
      replace hB := nextB hB b
      replace ia := ia.below b
      replace im := im.below b
      replace icr := icr.below b
      replace ikr := ikr.below b
      replace xx := xx.below b
      replace xy := xy.below b
      replace kx := kx.below b
      replace ky := ky.below b
      replace xz := xz.below b
      replace kz := kz.below b
      clear b
      have cc0 := kx.cell
      have cc1 := ky.cell
      have cc2 := kz.cell
      go_wp2_with fail
      clear cc0 cc1 cc2
      refine (of_any 1 (by omega) _).mono ?_
      rintro e w8 ⟨vo, rfl, io, b⟩
      replace hB := nextB hB b
      replace ia := ia.below b
      replace im := im.below b
      replace icr := icr.below b
      replace ikr := ikr.below b
      replace xx := xx.below b
      replace xy := xy.below b
      replace kx := kx.below b
      replace ky := ky.below b
      replace xz := xz.below b
      replace kz := kz.below b
      replace ig := ig.below b
      clear b
      have cc0 := kx.cell
      have cc1 := ky.cell
      have cc2 := kz.cell
      go_wp2_with fail
      clear cc0 cc1 cc2
      refine (cmpR_any ig io).mono ?_
      rintro e w9 ⟨rfl, b⟩
      replace hB := nextB hB b
      replace ia := ia.below b
      replace im := im.below b
      replace icr := icr.below b
      replace ikr := ikr.below b
      replace xx := xx.below b
      replace xy := xy.below b
      replace kx := kx.below b
      replace ky := ky.below b
      replace xz := xz.below b
      replace kz := kz.below b
      replace ig := ig.below b
      replace io := io.below b
      clear b
      have cc0 := kx.cell
      have cc1 := ky.cell
      have cc2 := kz.cell
      go_wp2_with fail
      clear cc0 cc1 cc2
      refine (told_err (er := 12) ⟨_, rfl, xz⟩ (by omega) (by omega) ⟨_, _, _, rfl⟩).mono ?_
      rintro e w10 ⟨rfl, b⟩
      replace hB := nextB hB b
      replace ia := ia.below b
      replace im := im.below b
      replace icr := icr.below b
      replace ikr := ikr.below b
      replace xx := xx.below b
      replace xy := xy.below b
      replace kx := kx.below b
      replace ky := ky.below b
      replace xz := xz.below b
      replace kz := kz.below b
      replace ig := ig.below b
      replace io := io.below b
      clear b
      have cc0 := kx.cell
      have cc1 := ky.cell
      have cc2 := kz.cell
      go_wp2_with fail
      clear cc0 cc1 cc2
      refine (awake_any _).mono ?_
      rintro e w11 ⟨rfl, b⟩
      replace hB := nextB hB b
      replace ia := ia.below b
      replace im := im.below b
      replace icr := icr.below b
      replace ikr := ikr.below b
      replace xx := xx.below b
      replace xy := xy.below b
      replace kx := kx.below b
      replace ky := ky.below b
      replace xz := xz.below b
      replace kz := kz.below b
      replace ig := ig.below b
      replace io := io.below b
      clear b
      go_wp2
      go_ret
      exact ⟨rfl, hB⟩

end Go.Proofs.Ytppbhjhbaknidaa
