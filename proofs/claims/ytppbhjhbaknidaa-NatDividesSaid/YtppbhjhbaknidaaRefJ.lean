/-
  The contract of the specification's Gcd. Condition: numbers of at most 2^29 bits.
-/
import Derived.Test.YtppbhjhbaknidaaRefH
import Derived.Test.YtppbhjhbaknidaaArithLaw
import Derived.Test.YtppbhjhbaknidaaRefC
import Derived.Test.YtppbhjhbaknidaaStr
import Derived.Test.YtppbhjhbaknidaaDiv
import Derived.Deep.LoopGhost
set_option linter.unusedVariables false
set_option linter.unusedSimpArgs false
namespace Go.Proofs.Ytppbhjhbaknidaa
open Go.RowKit

theorem IsR.first {w : World} {v : Value} {p : Nat} (h : IsR w v p) (hp : 0 < p) :
    ∃ b off k cap x, v = .slice (some ⟨b, off, none⟩) k cap ∧ 0 < k ∧ k ≤ 1099511627776 ∧ w.cell? ⟨b, off, none⟩ = some (.int .i64 (x : Nat)) ∧ x < 65536 ∧ x % 2 = p % 2 := by
  obtain ⟨xs, ⟨ao, k, cap, b, off, rfl, hs⟩, hc, hv⟩ := h
  have hk : 0 < k := by
    refine Nat.pos_of_ne_zero fun h0 => ?_
    have : xs = [] := List.length_eq_zero_iff.1 (by rw [hs.len, h0])
    rw [this] at hv
    simp [val] at hv
    omega
  obtain rfl := hs.addr.resolve_right (by omega)
  have hcell := hs.cells 0 hk
  refine ⟨b, off, k, cap, nth xs 0, rfl, hk, hs.max.1, hcell, hc.1.nth (by omega) 0, ?_⟩
  cases xs with
  | nil => have := hs.len; simp at this; omega
  | cons x ys =>
    rw [nth_zero, ← hv, val]
    omega
theorem P2_one : P2 1 = 2 := rfl

set_option maxHeartbeats 4000000 in
set_option maxRecDepth 100000 in
theorem gcdR_any {w : World} {va vb : Value} {m n : Nat} (ha : IsR w va m) (hb : IsR w vb n) (L : Nat) (hL : L ≤ 536870912) (hm : m < P2 L) (hn : n < P2 L) :
    Calls Try.prog 40 #[va, vb] w (RetR w (Nat.gcd m n)) := by
  obtain ⟨ao, k, cap, rfl, hk, hk2⟩ := ha.slice
  by_cases hm0 : m = 0
  · have hk0 := hk.2 hm0
    subst hk0
    subst hm0
    clear hk
    have HG := Lib.hid (Nat.gcd_zero_left n)
    go_enter Try.func40, Try.ntmps40
    go_wp2
    go_ret
    exact ⟨_, rfl, by rw [HG.out]; exact hb, Below.refl _ _⟩
  · have hkb : ((k : Int) == 0) = false := by
      rw [beq_eq_false_iff_ne]; intro hc; exact hm0 (hk.1 (by omega))
    obtain ⟨ao2, k2, cap2, rfl, hj, hj2⟩ := hb.slice
    by_cases hn0 : n = 0
    · have hk0 := hj.2 hn0
      subst hk0
      subst hn0
      clear hk hj
      have HG := Lib.hid (Nat.gcd_zero_right m)
      go_enter Try.func40, Try.ntmps40
      go_wp2
      go_ret
      exact ⟨_, rfl, by rw [HG.out]; exact ha, Below.refl _ _⟩
    · have hjb : ((k2 : Int) == 0) = false := by
        rw [beq_eq_false_iff_ne]; intro hc; exact hn0 (hj.1 (by omega))
      clear hk hj
      have HM := Lib.hid hm
      have HN := Lib.hid hn
      have hm1 : 0 < m := by omega
      have hn1 : 0 < n := by omega
      have HGL : Hid (Nat.gcd m n < P2 L) := Lib.hid (Nat.lt_of_le_of_lt (Nat.le_of_dvd hm1 (Nat.gcd_dvd_left m n)) hm)
      generalize hgg : Nat.gcd m n = G at *
      have HGG := Lib.hid hgg
      clear hgg hm hn hm0 hn0
      go_enter Try.func40, Try.ntmps40
      go_wp2
      go_loopg [0, 1, 5] m (fun g a b kk wr => ∃ (q t : Nat), kk = .int .i64 t ∧ t ≤ L ∧ IsR wr a g ∧ IsR wr b q ∧ 0 < g ∧ 0 < q ∧ Hid (g < P2 L ∧ q < P2 L) ∧ Hid (P2 t * Nat.gcd g q = G) ∧ Below w.heap.size w wr)
      case atStart => exact ⟨n, 0, rfl, Nat.zero_le _, ha, hb, hm1, hn1, Lib.hid ⟨HM.out, HN.out⟩, Lib.hid (by rw [HGG.out]; exact Nat.one_mul _), Below.refl _ _⟩
      case round =>
        obtain ⟨q, t, rfl, htL, ia, ib, hg0, hq0, hbd, hgc, hB⟩ := hrel
        clear ha hb hkb hjb
        obtain ⟨b1, o1, k1, c1, x, rfl, hk1, hk1b, hc1, hx, hxp⟩ := ia.first hg0
        obtain ⟨b2, o2, k2, c2, y, rfl, hk2, hk2b, hc2, hy, hyp⟩ := ib.first hq0
        by_cases hev : gk % 2 = 0 ∧ q % 2 = 0
        · have t1 : ((x : Int) % 2 == 0) = true := by rw [beq_iff_eq]; omega
          have t2 : ((y : Int) % 2 == 0) = true := by rw [beq_iff_eq]; omega
          have hp1 : 0 < gk / 2 := by omega
          have hp2 : 0 < q / 2 := by omega
          have HC2 : Hid (P2 (t + 1) * Nat.gcd (gk / 2) (q / 2) = G) := Lib.hid (by
            rw [← hgc.out, P2_succ, ← gcd_two hev.1 hev.2, Nat.mul_comm 2, Nat.mul_assoc])
          have htL1 : t + 1 ≤ L := by
            have h1 : P2 (t + 1) ≤ G := by
              rw [← HC2.out]; exact Nat.le_mul_of_pos_right _ (Nat.gcd_pos_of_pos_left _ hp1)
            have := P2_lt (Nat.lt_of_le_of_lt h1 HGL.out)
            omega
          have HB2 : Hid (gk / 2 < P2 L ∧ q / 2 < P2 L) := Lib.hid (by have := hbd.out; omega)
          have hlt2 : gk / 2 < gk := by omega
          clear hev hxp hyp
          go_wp2_with fail
          refine (shrR_any ia 1 (by omega) L (by omega) hbd.out.1).mono ?_
          rintro e w2 ⟨v2, rfl, i2, bb⟩
          replace ib := ib.below bb
          replace hB := nextB hB bb
          rw [P2_one] at i2
          clear bb ia hc1 hc2
          go_wp2_with fail
          refine (shrR_any ib 1 (by omega) L (by omega) hbd.out.2).mono ?_
          rintro e w3 ⟨v3, rfl, i3, bb⟩
          replace i2 := i2.below bb
          replace hB := nextB hB bb
          rw [P2_one] at i3
          clear bb ib
          go_wp2
          go_roundg (gk / 2)
          case measure => exact hlt2
          case rel => exact ⟨q / 2, t + 1, by go_num, htL1, i2, i3, hp1, hp2, HB2, HC2, hB⟩
        · have hodd : gk % 2 = 1 ∨ q % 2 = 1 := by omega
          have hcase : (((x : Int) % 2 == 0) = false) ∨ (((x : Int) % 2 == 0) = true ∧ ((y : Int) % 2 == 0) = false) := by
            by_cases h : gk % 2 = 0
            · exact .inr ⟨by rw [beq_iff_eq]; omega, by rw [beq_eq_false_iff_ne]; omega⟩
            · exact .inl (by rw [beq_eq_false_iff_ne]; omega)
          have HO := Lib.hid hodd
          have HGK := Lib.hid (show gk = gk + q - q by omega)
          clear hev hodd hxp hyp
          rcases hcase with hcase | ⟨hcase, hcase2⟩
          all_goals
            obtain ⟨wo, hwo⟩ : ∃ wo : World, wo = wr := ⟨_, rfl⟩
            rw [← hwo] at ia ib hB hc1 hc2 ⊢
            clear hwo
            go_wp2
            clear hc1 hc2
            go_loopg [0, 1] (gk + q) (fun g a b wr => ∃ (p r : Nat), Hid (g = p + r) ∧ IsR wr a p ∧ IsR wr b r ∧ 0 < r ∧ Hid (p < P2 L ∧ r < P2 L) ∧ Hid (P2 t * Nat.gcd p r = G) ∧ Hid (p % 2 = 1 ∨ r % 2 = 1) ∧ Below w.heap.size w wr)
            case atStart => exact ⟨gk, q, Lib.hid rfl, ia, ib, hq0, hbd, hgc, HO, hB⟩
            case round =>
              obtain ⟨p, r, hgs, ja, jb, hr0, hbd2, hgc2, hod, hB2⟩ := hrel
              clear ia ib hB hbd hgc
              obtain ⟨a1, s1, d1, rfl, hd1, hd1b⟩ := ja.slice
              by_cases hp0 : p = 0
              · have hd0 := hd1.2 hp0
                subst hd0
                have HF : Hid (r * P2 t = G) := Lib.hid (by
                  have := hgc2.out
                  rw [hp0, Nat.gcd_zero_left, Nat.mul_comm] at this
                  exact this)
                clear hd1
                go_wp2_with fail
                refine (shlR_any jb t (by omega) L (by omega) hbd2.out.2).mono ?_
                rintro e w2 ⟨v2, rfl, i2, bb⟩
                rw [HF.out] at i2
                go_wp2
                go_ret
                exact ⟨_, rfl, i2, nextB hB2 bb⟩
              · have hp1 : 0 < p := by omega
                have hd0 : 0 < s1 := Nat.pos_of_ne_zero fun h => hp0 (hd1.1 h)
                clear hd1
                obtain ⟨wo, hwo⟩ : ∃ wo : World, wo = wr := ⟨_, rfl⟩
                rw [← hwo] at ja jb hB2 ⊢
                clear hwo
                go_wp2
                go_loopg [0] p (fun g a wr => IsR wr a g ∧ 0 < g ∧ Hid (g ≤ p) ∧ Hid (Nat.gcd g r = Nat.gcd p r) ∧ Hid (g % 2 = 1 ∨ r % 2 = 1) ∧ Below wo.heap.size wo wr)
                case atStart => exact ⟨ja, hp1, Lib.hid (Nat.le_refl _), Lib.hid rfl, hod, Below.refl _ _⟩
                case round =>
                  obtain ⟨ka, hg0, hgp, hgg, hgo, hB3⟩ := hrel
                  obtain ⟨b1, o1, k1, c1, x, rfl, hk1, hk1b, hc1, hx, hxp⟩ := ka.first hg0
                  have hszo := hB3.size
                  have hgL : Hid (gk < P2 L) := Lib.hid (Nat.lt_of_le_of_lt hgp.out hbd2.out.1)
                  by_cases hev : gk % 2 = 0
                  · have t1 : ((x : Int) % 2 == 0) = true := by rw [beq_iff_eq]; omega
                    have hr1 : r % 2 = 1 := by have := hgo.out; omega
                    have HC2 : Hid (Nat.gcd (gk / 2) r = Nat.gcd p r) := Lib.hid (by rw [gcd_half hev hr1, hgg.out])
                    have HO2 : Hid (gk / 2 % 2 = 1 ∨ r % 2 = 1) := Lib.hid (.inr hr1)
                    have HP2 : Hid (gk / 2 ≤ p) := Lib.hid (by have := hgp.out; omega)
                    have hp2 : 0 < gk / 2 := by omega
                    have hlt2 : gk / 2 < gk := by omega
                    clear hev hxp hr1
                    go_wp2_with fail
                    refine (shrR_any ka 1 (by omega) L (by omega) hgL.out).mono ?_
                    rintro e w2 ⟨v2, rfl, i2, bb⟩
                    rw [P2_one] at i2
                    go_wp2
                    go_roundg (gk / 2)
                    case measure => exact hlt2
                    case rel => exact ⟨i2, hp2, HP2, HC2, HO2, nextB hB3 bb⟩
                  · have t1 : ((x : Int) % 2 == 0) = false := by rw [beq_eq_false_iff_ne]; omega
                    obtain ⟨p1, hp1e⟩ : ∃ p1, p1 = gk := ⟨_, rfl⟩
                    have hpo : Hid (p1 % 2 = 1) := Lib.hid (by omega)
                    rw [← hp1e] at ka hg0 hgp hgg hgL
                    clear hev hxp hp1e hgo
                    obtain ⟨wp, hwp⟩ : ∃ wp : World, wp = wr := ⟨_, rfl⟩
                    have jb2 := jb.below hB3
                    rw [← hwp] at ka jb2 hB3 hc1 hszo ⊢
                    clear hwp
                    go_wp2
                    clear hc1
                    go_loopg [1] r (fun g b wr => IsR wr b g ∧ 0 < g ∧ Hid (g ≤ r) ∧ Hid (Nat.gcd p1 g = Nat.gcd p r) ∧ Below wp.heap.size wp wr)
                    case atStart => exact ⟨jb2, hr0, Lib.hid (Nat.le_refl _), hgg, Below.refl _ _⟩
                    case round =>
                      obtain ⟨kb, hg1, hgr, hgg3, hB4⟩ := hrel
                      obtain ⟨b2, o2, k2, c2, y, rfl, hk2, hk2b, hc2, hy, hyp⟩ := kb.first hg1
                      have ka2 := ka.below hB4
                      have hB5 := nextB (nextB hB2 hB3) hB4
                      have hgR : Hid (gk < P2 L) := Lib.hid (Nat.lt_of_le_of_lt hgr.out hbd2.out.2)
                      by_cases hev : gk % 2 = 0
                      · have t1 : ((y : Int) % 2 == 0) = true := by rw [beq_iff_eq]; omega
                        have HC2 : Hid (Nat.gcd p1 (gk / 2) = Nat.gcd p r) := Lib.hid (by rw [gcd_half' hpo.out hev, hgg3.out])
                        have HP2 : Hid (gk / 2 ≤ r) := Lib.hid (by have := hgr.out; omega)
                        have hp2 : 0 < gk / 2 := by omega
                        have hlt2 : gk / 2 < gk := by omega
                        clear hev hyp
                        go_wp2_with fail
                        refine (shrR_any kb 1 (by omega) L (by omega) hgR.out).mono ?_
                        rintro e w2 ⟨v2, rfl, i2, bb⟩
                        rw [P2_one] at i2
                        go_wp2
                        go_roundg (gk / 2)
                        case measure => exact hlt2
                        case rel => exact ⟨i2, hp2, HP2, HC2, nextB hB4 bb⟩
                      · have t1 : ((y : Int) % 2 == 0) = false := by rw [beq_eq_false_iff_ne]; omega
                        obtain ⟨r1, hr1e⟩ : ∃ r1, r1 = gk := ⟨_, rfl⟩
                        have hro : Hid (r1 % 2 = 1) := Lib.hid (by omega)
                        rw [← hr1e] at kb hg1 hgr hgg3 hgR
                        clear hev hyp hr1e hB3 hB4 jb ja
                        go_wp2_with fail
                        refine (cmpR_any ka2 kb).mono ?_
                        rintro e w2 ⟨rfl, bb⟩
                        replace ka2 := ka2.below bb
                        replace kb := kb.below bb
                        replace hB5 := nextB hB5 bb
                        clear bb ka hc2
                        by_cases hle : r1 ≤ p1
                        · have hz := cmpI_ge hle
                          have HLE := Lib.hid hle
                          have HC2 : Hid (P2 t * Nat.gcd (p1 - r1) r1 = G) := Lib.hid (by rw [gcd_subl hle, hgg3.out, hgc2.out])
                          have HO2 : Hid ((p1 - r1) % 2 = 1 ∨ r1 % 2 = 1) := Lib.hid (.inr hro.out)
                          have HL2 : Hid (p1 - r1 < P2 L ∧ r1 < P2 L) := Lib.hid (by have h1 := hgL.out; have h2 := hgR.out; omega)
                          have HD : Hid (p1 - r1 + r1 < p + r) := Lib.hid (by have h1 := hgp.out; have h2 := hgr.out; omega)
                          clear hle
                          generalize cmpI p1 r1 = z at hz ⊢
                          have hd : decide ((0 : Int) ≤ z) = true := decide_eq_true hz
                          go_wp2_with fail
                          refine (subR_any ka2 kb L (by omega) hgL.out HLE.out).mono ?_
                          rintro e w3 ⟨v3, rfl, i3, bb⟩
                          replace kb := kb.below bb
                          replace hB5 := nextB hB5 bb
                          go_wp2
                          go_roundg (p1 - r1 + r1)
                          case measure => rw [hgs.out]; exact HD.out
                          case rel => exact ⟨_, _, Lib.hid rfl, i3, kb, hg1, HL2, HC2, HO2, hB5⟩
                        · have hlt : p1 < r1 := by omega
                          have hz := cmpI_lt hlt
                          have HLE := Lib.hid (Nat.le_of_lt hlt)
                          have HC2 : Hid (P2 t * Nat.gcd p1 (r1 - p1) = G) := Lib.hid (by rw [gcd_subr (Nat.le_of_lt hlt), hgg3.out, hgc2.out])
                          have HO2 : Hid (p1 % 2 = 1 ∨ (r1 - p1) % 2 = 1) := Lib.hid (.inl hpo.out)
                          have HL2 : Hid (p1 < P2 L ∧ r1 - p1 < P2 L) := Lib.hid (by have h1 := hgL.out; have h2 := hgR.out; omega)
                          have HD : Hid (p1 + (r1 - p1) < p + r) := Lib.hid (by have h1 := hgp.out; have h2 := hgr.out; omega)
                          have hpos : 0 < r1 - p1 := by omega
                          rw [hz]
                          clear hle hlt hz
                          go_wp2_with fail
                          refine (subR_any kb ka2 L (by omega) hgR.out HLE.out).mono ?_
                          rintro e w3 ⟨v3, rfl, i3, bb⟩
                          replace ka2 := ka2.below bb
                          replace hB5 := nextB hB5 bb
                          go_wp2
                          go_roundg (p1 + (r1 - p1))
                          case measure => rw [hgs.out]; exact HD.out
                          case rel => exact ⟨_, _, Lib.hid rfl, ka2, i3, hpos, HL2, HC2, HO2, hB5⟩

end Go.Proofs.Ytppbhjhbaknidaa
