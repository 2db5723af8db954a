/-
  The contract of the program's estimate: the digit of the quotient, or one too great. Conditions: the divisor's highest word has its top bit set; the dividend's three words are less than the base times one more than the divisor's two.
-/
import Derived.Test.YtppbhjhbaknidaaDivW
import Derived.Test.YtppbhjhbaknidaaMul
namespace Go.Proofs.Ytppbhjhbaknidaa
open Go.RowKit

/-- What estimate returns. -/
def estQ (U V : Nat) : Nat := min (U / V) 4294967295

structure EstInv (T u0 v1 v0 q r : Nat) : Prop where
  eq : q * v1 + r = T
  lo : estQ (T * 4294967296 + u0) (v1 * 4294967296 + v0) ≤ q
  hi : q ≤ 4294967297
  rb : r < 4294967296

section
variable {u2 u1 u0 v1 v0 : Nat}

theorem est_T (hu1 : u1 < 4294967296) (hu0 : u0 < 4294967296) (hv0 : v0 < 4294967296)
    (hb : (u2 * 4294967296 + u1) * 4294967296 + u0 < (v1 * 4294967296 + v0 + 1) * 4294967296) : u2 ≤ v1 := by omega

theorem EstInv.zero (hu1 : u1 < 4294967296) (hu0 : u0 < 4294967296) (hv0 : v0 < 4294967296) (hv1 : 2147483648 ≤ v1) (hv1' : v1 < 4294967296)
    (hb : (u2 * 4294967296 + u1) * 4294967296 + u0 < (v1 * 4294967296 + v0 + 1) * 4294967296) :
    EstInv (u2 * 4294967296 + u1) u0 v1 v0 ((u2 * 4294967296 + u1) / v1) ((u2 * 4294967296 + u1) % v1) := by
  have h2 := est_T hu1 hu0 hv0 hb
  have hm := Nat.mod_lt (u2 * 4294967296 + u1) (show 0 < v1 by omega)
  refine ⟨by rw [Nat.mul_comm]; exact Nat.div_add_mod _ _, ?_, ?_, by omega⟩
  · refine Nat.le_trans (Nat.min_le_left _ _) ?_
    rw [Nat.le_div_iff_mul_le (by omega)]
    have h3 := Nat.div_mul_le_self ((u2 * 4294967296 + u1) * 4294967296 + u0) (v1 * 4294967296 + v0)
    generalize ((u2 * 4294967296 + u1) * 4294967296 + u0) / (v1 * 4294967296 + v0) = q at *
    rw [Nat.mul_add, ← Nat.mul_assoc] at h3
    omega
  · have hv : 0 < v1 := by omega
    have h5 : u2 * 4294967296 ≤ v1 * 4294967296 := Nat.mul_le_mul_right _ h2
    have h6 : u1 < v1 + v1 := by omega
    have h3 : u2 * 4294967296 + u1 < 4294967298 * v1 := by
      rw [show (4294967298 : Nat) = 4294967296 + 2 from rfl, Nat.add_mul, Nat.mul_comm 4294967296 v1, Nat.two_mul]
      exact Nat.add_lt_add_of_le_of_lt h5 h6
    have h4 : (u2 * 4294967296 + u1) / v1 < 4294967298 := (Nat.div_lt_iff_lt_mul hv).2 h3
    exact Nat.le_of_lt_succ h4

variable {T q r : Nat}

/-- q times the divisor's two words, against the dividend's three. -/
theorem est_le (h : q * v1 + r = T) : q * (v1 * 4294967296 + v0) ≤ T * 4294967296 + u0 ↔ q * v0 ≤ r * 4294967296 + u0 := by
  rw [Nat.mul_add, ← Nat.mul_assoc, ← h, Nat.add_mul]
  omega

theorem EstInv.stop (h : EstInv T u0 v1 v0 q r) (hv : 0 < v1) (hq : q < 4294967296) (hle : q * v0 ≤ r * 4294967296 + u0) :
    q = estQ (T * 4294967296 + u0) (v1 * 4294967296 + v0) := by
  have h1 := (est_le (u0 := u0) (v0 := v0) h.eq).2 hle
  have h2 : q ≤ (T * 4294967296 + u0) / (v1 * 4294967296 + v0) := (Nat.le_div_iff_mul_le (by omega)).2 h1
  have h3 := h.lo
  unfold estQ at *
  omega

theorem EstInv.dec (h : EstInv T u0 v1 v0 q r) (hv : 0 < v1) (ht : 4294967296 ≤ q ∨ r * 4294967296 + u0 < q * v0) :
    1 ≤ q ∧ (q - 1) * v1 + (r + v1) = T ∧ estQ (T * 4294967296 + u0) (v1 * 4294967296 + v0) ≤ q - 1 := by
  have hq : 1 ≤ q := by
    rcases ht with ht | ht
    · omega
    · rcases Nat.eq_zero_or_pos q with h0 | h0
      · subst h0; omega
      · exact h0
  refine ⟨hq, ?_, ?_⟩
  · have := h.eq
    obtain ⟨p, rfl⟩ : ∃ p, q = p + 1 := ⟨q - 1, by omega⟩
    rw [Nat.add_mul] at this
    simp only [Nat.add_sub_cancel]
    omega
  · rcases ht with ht | ht
    · unfold estQ; omega
    · have h1 : ¬ q * (v1 * 4294967296 + v0) ≤ T * 4294967296 + u0 := fun hc => by have := (est_le (u0 := u0) (v0 := v0) h.eq).1 hc; omega
      have h2 : ¬ q ≤ (T * 4294967296 + u0) / (v1 * 4294967296 + v0) := fun hc => h1 ((Nat.le_div_iff_mul_le (by omega)).1 hc)
      unfold estQ; omega

theorem EstInv.go (h : EstInv T u0 v1 v0 q r) (hv : 0 < v1) (ht : 4294967296 ≤ q ∨ r * 4294967296 + u0 < q * v0) (hr : r + v1 < 4294967296) : EstInv T u0 v1 v0 (q - 1) (r + v1) := by
  obtain ⟨a, b, c⟩ := h.dec hv ht
  exact ⟨b, c, by have := h.hi; omega, hr⟩

theorem EstInv.out (h : EstInv T u0 v1 v0 q r) (hv : 0 < v1) (hv0 : v0 < 4294967296) (hb : T * 4294967296 + u0 < (v1 * 4294967296 + v0 + 1) * 4294967296)
    (ht : 4294967296 ≤ q ∨ r * 4294967296 + u0 < q * v0) (hr : 4294967296 ≤ r + v1) : q - 1 = estQ (T * 4294967296 + u0) (v1 * 4294967296 + v0) := by
  obtain ⟨a, b, c⟩ := h.dec hv ht
  have hq : q - 1 ≤ 4294967296 := by have := h.hi; omega
  have h5 : (q - 1) * v0 ≤ 4294967296 * v0 := Nat.mul_le_mul_right _ hq
  have h1 := (est_le (u0 := u0) (v0 := v0) b).2 (by omega)
  have h2 : q - 1 ≤ (T * 4294967296 + u0) / (v1 * 4294967296 + v0) := (Nat.le_div_iff_mul_le (by omega)).2 h1
  have h3 : q - 1 < 4294967296 := by
    rcases Nat.lt_or_ge (q - 1) 4294967296 with h | h
    · exact h
    · have : q - 1 = 4294967296 := by omega
      rw [this] at b
      omega
  unfold estQ at *
  omega
end

def RetU64 (w : World) (z : Nat) (e : Ending) (w' : World) : Prop := e = .returned (.int .u64 z) ∧ ∃ m, w' = w.drewN m

set_option maxHeartbeats 1000000 in
theorem estimate_core (w : World) (u2 u1 u0 v1 v0 T E : Nat) (hu2 : u2 < 4294967296) (hu1 : u1 < 4294967296) (hu0 : u0 < 4294967296) (hv1 : 2147483648 ≤ v1) (hv1' : v1 < 4294967296) (hv0 : v0 < 4294967296)
    (hT : (u1 : Int) + 4294967296 * (u2 : Int) = (T : Int)) (hTb : T < 18446744073709551616) (HZ : Hid (EstInv T u0 v1 v0 (T / v1) (T % v1))) (HE : Hid (E = estQ (T * 4294967296 + u0) (v1 * 4294967296 + v0)))
    (HB : Hid (T * 4294967296 + u0 < (v1 * 4294967296 + v0 + 1) * 4294967296)) :
    Calls Try.prog 130 #[.int .u64 u2, .int .u64 u1, .int .u64 u0, .int .u64 v1, .int .u64 v0] w (RetU64 w E) := by
  have hor := or64' hu1 hu2
  rw [hT] at hor
  clear hT
  go_enter Try.func130, Try.ntmps130
  go_wp2
  go_step3
  go_wp2
  go_quiet (fail)
  go_wp2
  go_step3
  go_wp2
  go_loop [12, 13] (fun a b => ∃ q r : Nat, a = .int .u64 q ∧ b = .int .u64 r ∧ EstInv T u0 v1 v0 q r) (fun a _ => (intOf a).toNat)
  case atStart =>
    refine ⟨_, _, ?_, ?_, HZ.out⟩
    · have := HZ.out.hi
      rw [← Int.natCast_ediv]
      generalize T / v1 = z at *
      rw [IntWalk.u64_in _ (by omega)]
    · rw [Int.natCast_emod]
  case round =>
    obtain ⟨q, r, rfl, rfl, hinv⟩ := hrel
    clear hor hTb
    have hq := hinv.hi
    have hr := hinv.rb
    have HI := Lib.hid hinv
    clear hinv
    have hor := or64' hu0 hr
    by_cases hq1 : 4294967296 ≤ q
    · have a0 : decide ((4294967296 : Int) ≤ (q : Int)) = true := decide_eq_true (by omega)
      have a1 : (1 : Int) ≤ (q : Int) := by omega
      have a2 : (q : Int) ≤ 4294967297 := by omega
      by_cases hr1 : r + v1 < 4294967296
      · have HG := Lib.hid (HI.out.go (by omega) (.inl hq1) hr1)
        have a3 : decide ((4294967296 : Int) ≤ (r : Int) + (v1 : Int)) = false := decide_eq_false (by omega)
        have a4 : (r : Int) + (v1 : Int) < 4294967296 := by omega
        clear hq hq1 hr hr1
        go_wp2
        go_round
        case rel => exact ⟨q - 1, r + v1, by refine congrArg _ ?_; omega, rfl, HG.out⟩
        case measure => simp only [intOf]; omega
      · have HG := Lib.hid (HI.out.out (by omega) hv0 HB.out (.inl hq1) (by omega))
        have a3 : decide ((4294967296 : Int) ≤ (r : Int) + (v1 : Int)) = true := decide_eq_true (by omega)
        have a4 : (r : Int) < 4294967296 := by omega
        clear hq hq1 hr hr1
        go_wp2
        go_ret
        exact ⟨congrArg Ending.returned (show Value.int .u64 ((q : Int) - 1) = .int .u64 E from congrArg _ (by rw [HE.out, ← HG.out]; omega)), ⟨_, rfl⟩⟩
    · have hb := mul_bdI (x := q) (y := v0) (by omega) hv0
      obtain ⟨hb1, hb2⟩ := hb
      have a0 : decide ((4294967296 : Int) ≤ (q : Int)) = false := decide_eq_false (by omega)
      have a2 : (q : Int) < 4294967296 := by omega
      by_cases ht : r * 4294967296 + u0 < q * v0
      · have t1 : decide ((u0 : Int) + 4294967296 * (r : Int) < (q : Int) * (v0 : Int)) = true := decide_eq_true (by rw [← Int.natCast_mul]; omega)
        have a1 : (1 : Int) ≤ (q : Int) := by
          rcases Nat.eq_zero_or_pos q with h0 | h0
          · subst h0; rw [Nat.zero_mul] at ht; omega
          · omega
        by_cases hr1 : r + v1 < 4294967296
        · have HG := Lib.hid (HI.out.go (by omega) (.inr ht) hr1)
          have a3 : decide ((4294967296 : Int) ≤ (r : Int) + (v1 : Int)) = false := decide_eq_false (by omega)
          have a4 : (r : Int) + (v1 : Int) < 4294967296 := by omega
          clear hq hq1 hr hr1 ht
          go_wp2
          go_round
          case rel => exact ⟨q - 1, r + v1, by refine congrArg _ ?_; omega, rfl, HG.out⟩
          case measure => simp only [intOf]; omega
        · have HG := Lib.hid (HI.out.out (by omega) hv0 HB.out (.inr ht) (by omega))
          have a3 : decide ((4294967296 : Int) ≤ (r : Int) + (v1 : Int)) = true := decide_eq_true (by omega)
          have a4 : (r : Int) < 4294967296 := by omega
          clear hq hq1 hr hr1 ht
          go_wp2
          go_ret
          exact ⟨congrArg Ending.returned (show Value.int .u64 ((q : Int) - 1) = .int .u64 E from congrArg _ (by rw [HE.out, ← HG.out]; omega)), ⟨_, rfl⟩⟩
      · have t1 : decide ((u0 : Int) + 4294967296 * (r : Int) < (q : Int) * (v0 : Int)) = false := decide_eq_false (by rw [← Int.natCast_mul]; omega)
        have HG := Lib.hid (HI.out.stop (by omega) (by omega) (by omega))
        have a4 : (r : Int) < 4294967296 := by omega
        clear hq hq1 hr ht
        go_wp2
        go_ret
        exact ⟨congrArg Ending.returned (show Value.int .u64 (q : Int) = .int .u64 E from congrArg _ (by rw [HE.out, ← HG.out])), ⟨_, rfl⟩⟩

theorem estimate_any (w : World) (u2 u1 u0 v1 v0 : Nat) (hu2 : u2 < 4294967296) (hu1 : u1 < 4294967296) (hu0 : u0 < 4294967296) (hv1 : 2147483648 ≤ v1) (hv1' : v1 < 4294967296) (hv0 : v0 < 4294967296)
    (hb : (u2 * 4294967296 + u1) * 4294967296 + u0 < (v1 * 4294967296 + v0 + 1) * 4294967296) :
    Calls Try.prog 130 #[.int .u64 u2, .int .u64 u1, .int .u64 u0, .int .u64 v1, .int .u64 v0] w
      (RetU64 w (estQ ((u2 * 4294967296 + u1) * 4294967296 + u0) (v1 * 4294967296 + v0))) :=
  estimate_core w u2 u1 u0 v1 v0 _ _ hu2 hu1 hu0 hv1 hv1' hv0 (by clear hb; omega) (by clear hb; omega) (EstInv.zero hu1 hu0 hv0 hv1 hv1' hb) (show _ = _ from rfl) hb

end Go.Proofs.Ytppbhjhbaknidaa
