/-
  The contracts of the program's gcd and sqrt. Condition: numbers of at most 2^31 bits.
-/
import Derived.Test.YtppbhjhbaknidaaDiv
import Derived.Deep.LoopGhost
namespace Go.Proofs.Ytppbhjhbaknidaa
open Go.RowKit

theorem len_zero {xs : List Nat} (h : Can 4294967296 xs) : xs.length = 0 ↔ val 4294967296 xs = 0 := by
  constructor
  · intro h0; rw [List.eq_nil_of_length_eq_zero h0]; rfl
  · intro h0; rw [h.zero (by omega) h0]; rfl

set_option maxHeartbeats 1000000 in
theorem gcd_any {w : World} {va vb : Value} {m n : Nat} (ha : IsN w va m) (hb : IsN w vb n) (L : Nat) (hL : L ≤ 4294967296) (hm : m < P2 L) (hn : n < P2 L) :
    Calls Try.prog 106 #[va, vb] w (RetN w (Nat.gcd m n)) := by
  go_enter Try.func106, Try.ntmps106
  go_wp2
  go_loopg [0, 1] n (fun g a b wr => ∃ p : Nat, IsN wr a p ∧ IsN wr b g ∧ p < P2 L ∧ g < P2 L ∧ Nat.gcd p g = Nat.gcd m n ∧ Below w.heap.size w wr)
  case atStart => exact ⟨m, ha, hb, hm, hn, rfl, Below.refl _ _⟩
  case round =>
    obtain ⟨p, ia, ib, hp, hg, hgcd, hB⟩ := hrel
    obtain ⟨ys, ao, k, cap, b, off, rfl, hs, hc, hv⟩ := ib.sl
    have hz := len_zero hc
    rw [hs.len, hv] at hz
    have HG := Lib.hid hgcd
    clear hgcd
    by_cases h0 : k = 0
    · have hd : decide ((0 : Int) < (k : Int)) = false := decide_eq_false (by omega)
      have hg0 : gk = 0 := hz.1 h0
      have hfin : Nat.gcd m n = p := by rw [← HG.out, hg0, Nat.gcd_zero_right]
      have HF := Lib.hid hfin
      clear hfin hz hg0
      go_wp2
      go_ret
      exact ⟨_, rfl, by rw [HF.out]; exact ia, hB⟩
    · have hd : decide ((0 : Int) < (k : Int)) = true := decide_eq_true (by omega)
      have hg1 : 0 < gk := Nat.pos_of_ne_zero fun h => h0 (hz.2 h)
      clear hz
      go_wp2_with fail
      refine (divMod_any ia ib hg1 L hL hp).mono ?_
      rintro e w2 ⟨v1, v2, rfl, i1, i2, b2⟩
      have ib2 := ib.below b2
      have hB2 := nextB hB b2
      go_wp2
      go_roundg (p % gk)
      case measure => exact Nat.mod_lt _ hg1
      case rel =>
        refine ⟨gk, ib2, i2, hg, Nat.lt_trans (Nat.mod_lt _ hg1) hg, ?_, hB2⟩
        rw [← HG.out, Nat.gcd_comm gk, ← Nat.gcd_rec, Nat.gcd_comm]

def IsSqrt (r m : Nat) : Prop := r * r ≤ m ∧ m < (r + 1) * (r + 1)

theorem amgm (x y : Nat) : 4 * (x * y) ≤ (x + y) * (x + y) := by
  rcases Nat.le_total x y with h | h
  · obtain ⟨d, rfl⟩ := Nat.exists_eq_add_of_le h
    have : (x + (x + d)) * (x + (x + d)) = 4 * (x * (x + d)) + d * d := by
      simp only [Nat.mul_add, Nat.add_mul, Nat.mul_comm]; omega
    omega
  · obtain ⟨d, rfl⟩ := Nat.exists_eq_add_of_le h
    have : (y + d + y) * (y + d + y) = 4 * ((y + d) * y) + d * d := by
      simp only [Nat.mul_add, Nat.add_mul, Nat.mul_comm]; omega
    omega

theorem newton {m x : Nat} (hx : 0 < x) : m < ((x + m / x) / 2 + 1) * ((x + m / x) / 2 + 1) := by
  have h1 := amgm x (m / x + 1)
  have h2 := Nat.lt_mul_div_succ m hx
  have h3 : x + (m / x + 1) ≤ 2 * ((x + m / x) / 2 + 1) := by omega
  have h4 := Nat.mul_le_mul h3 h3
  generalize (x + m / x) / 2 + 1 = y at *
  have h5 : 2 * y * (2 * y) = 4 * (y * y) := by rw [Nat.mul_mul_mul_comm]
  omega

theorem newton_stop {m x : Nat} (hx : 0 < x) (h : x ≤ (x + m / x) / 2) : x * x ≤ m := by
  have h1 : x ≤ m / x := by omega
  exact (Nat.le_div_iff_mul_le hx).1 h1

theorem sqrt_start {m : Nat} : m < (P2 ((blen m + 1) / 2) + 1) * (P2 ((blen m + 1) / 2) + 1) := by
  have h1 := lt_blen (n := m)
  have h2 : P2 (blen m) ≤ P2 ((blen m + 1) / 2 + (blen m + 1) / 2) := P2_mono (by omega)
  rw [P2_add] at h2
  have h3 : P2 ((blen m + 1) / 2) * P2 ((blen m + 1) / 2) ≤ (P2 ((blen m + 1) / 2) + 1) * (P2 ((blen m + 1) / 2) + 1) := Nat.mul_le_mul (by omega) (by omega)
  omega

def RetSqrt (w : World) (m : Nat) (e : Ending) (w' : World) : Prop := ∃ r, IsSqrt r m ∧ RetN w r e w'

set_option maxHeartbeats 1000000 in
theorem sqrt_any {w : World} {va : Value} {m : Nat} (ha : IsN w va m) (L : Nat) (hL : L ≤ 2147483648) (hm : m < P2 L) :
    Calls Try.prog 121 #[va] w (RetSqrt w m) := by
  obtain ⟨xs, ao, k, cap, b, off, rfl, hs, hc, hv⟩ := ha.sl
  have hz := len_zero hc
  rw [hs.len, hv] at hz
  by_cases h0 : k = 0
  · have hb : ((k : Int) == 0) = true := by simp [h0]
    have hm0 := hz.1 h0
    subst hm0
    clear hz
    go_enter Try.func121, Try.ntmps121
    go_wp2
    go_ret
    exact ⟨0, ⟨by omega, by omega⟩, _, rfl, IsN.zero _, Below.refl _ _⟩
  · have hb : ((k : Int) == 0) = false := by simp [h0]
    have hm0 : 0 < m := Nat.pos_of_ne_zero fun h => h0 (hz.2 h)
    have hbl : blen m ≤ L := blen_le.2 hm
    have HS := Lib.hid (sqrt_start (m := m))
    clear hz
    go_enter Try.func121, Try.ntmps121
    go_wp2_with fail
    refine (words_any 1 _ (by omega) (by omega)).mono ?_
    rintro e w1 ⟨v1, rfl, i1, b1⟩
    rw [show (1 : Int).toNat = 1 from rfl] at i1
    go_wp2_with fail
    refine (bitLen_any (ha.below b1) L (by omega) hm).mono ?_
    rintro e w1' ⟨rfl, hw⟩
    subst hw
    go_wp2_with fail
    refine (lsh_any i1 (((blen m : Int) + 1) / 2) (by omega) (by omega) 1 (by omega) (by unfold P2; omega)).mono ?_
    rintro e w2 ⟨v2, rfl, i2, b2⟩
    rw [show (((blen m : Int) + 1) / 2).toNat = (blen m + 1) / 2 by omega, Nat.one_mul] at i2
    have hB2 := nextB b1 b2
    have hx0 : P2 ((blen m + 1) / 2) < P2 (L + 1) := by
      have h1 : P2 ((blen m + 1) / 2) ≤ P2 L := P2_mono (by omega)
      have := P2_succ L
      have := P2_pos L
      omega
    have HX := Lib.hid hx0
    clear b1 b2 i1 hx0
    go_wp2_with fail
    go_loopg [3] (P2 ((blen m + 1) / 2)) (fun g v wr => IsN wr v g ∧ 0 < g ∧ m < (g + 1) * (g + 1) ∧ g < P2 (L + 1) ∧ Below w.heap.size w wr)
    case atStart => exact ⟨i2, P2_pos _, HS.out, HX.out, hB2⟩
    case round =>
      obtain ⟨ix, hx0, hx1, hx2, hB⟩ := hrel
      clear i2 hB2
      have HX1 := Lib.hid hx1
      clear hx1
      have hq : m / gk < P2 (L + 1) := Nat.lt_of_le_of_lt (Nat.div_le_self _ _) (lt_P2_mono hm (by omega))
      have hn1 := newton (m := m) hx0
      have hst := newton_stop (m := m) hx0
      go_wp2_with fail
      refine (divMod_any (ha.below hB) ix hx0 L (by omega) hm).mono ?_
      rintro e w3 ⟨vq, vr, rfl, iq, _, b3⟩
      have ix3 := ix.below b3
      have hB3 := nextB hB b3
      generalize m / gk = q at *
      have HN := Lib.hid hn1
      have HT := Lib.hid hst
      clear hn1 hst b3 ix
      go_wp2_with fail
      refine (add_any ix3 iq (L + 1) (by omega) hx2 hq).mono ?_
      rintro e w4 ⟨vs, rfl, is, b4⟩
      have ix4 := ix3.below b4
      have hB4 := nextB hB3 b4
      clear b4 ix3 iq
      go_wp2_with fail
      refine (rsh_any is 1 (by omega) (by omega) (L + 2) (by omega) (add_lt_P2 hx2 hq)).mono ?_
      rintro e w5 ⟨vn, rfl, inx, b5⟩
      rw [show P2 (1 : Int).toNat = 2 from rfl] at inx
      have ix5 := ix4.below b5
      have hB5 := nextB hB4 b5
      clear b5 ix4 is
      generalize hy : (gk + q) / 2 = y at *
      have hyb : y ≤ gk + q := by omega
      have HY := Lib.hid hy
      clear hy
      go_wp2_with fail
      refine (cmp_any inx ix5).mono ?_
      rintro e w6 ⟨rfl, b6⟩
      have ix6 := ix5.below b6
      have in6 := inx.below b6
      have hB6 := nextB hB5 b6
      clear b6 ix5 inx
      by_cases hc : gk ≤ y
      · have hz := cmpI_ge hc
        generalize cmpI y gk = z at *
        have hd : decide ((0 : Int) ≤ z) = true := decide_eq_true hz
        go_wp2
        go_ret
        exact ⟨gk, ⟨HT.out hc, HX1.out⟩, _, rfl, ix6, hB6⟩
      · have hz := cmpI_lt (m := y) (n := gk) (by omega)
        rw [hz]
        go_wp2
        go_roundg y
        case measure => omega
        case rel =>
          have := HN.out
          refine ⟨in6, ?_, this, by omega, hB6⟩
          rcases Nat.eq_zero_or_pos y with h | h
          · subst h; omega
          · exact h

end Go.Proofs.Ytppbhjhbaknidaa
