/-
  The contract of the specification's Bit. Condition: numbers of at most 2^33 bits.
-/
import Derived.Test.YtppbhjhbaknidaaRefH
set_option linter.unusedVariables false
set_option linter.unusedSimpArgs false
namespace Go.Proofs.Ytppbhjhbaknidaa
open Go.RowKit

theorem nth_digit {xs : List Nat} (h : Dg 65536 xs) (k : Nat) : nth xs k = val 65536 xs / 65536 ^ k % 65536 := by
  rw [nth_drop_mod h, val_drop_divR h]

theorem bit_digit {V s : Nat} (hs : s < 16) : V % 65536 / 2 ^ s % 2 = V / 2 ^ s % 2 := by
  have e := Nat.mod_add_div V 65536
  have h2 : 65536 = 2 ^ s * (2 * 2 ^ (15 - s)) := by
    have := pow_fac hs
    rw [show 16 - s = (15 - s) + 1 by omega, Nat.pow_succ] at this
    rw [← this, Nat.mul_comm (2 ^ (15 - s)) 2]
  generalize V % 65536 = r at *
  generalize V / 65536 = u at *
  have h3 : V / 2 ^ s = r / 2 ^ s + 2 * (2 ^ (15 - s) * u) := by
    rw [← e, h2, Nat.mul_assoc, Nat.add_mul_div_left _ _ (Nat.pow_pos (by omega)), Nat.mul_assoc]
  rw [h3]; omega

/-- Binary digit i. -/
def bitAt (n i : Nat) : Nat := n / P2 i % 2
theorem bitAt_digit {xs : List Nat} (h : Dg 65536 xs) (i : Nat) : nth xs (i / 16) / 2 ^ (i % 16) % 2 = bitAt (val 65536 xs) i := by
  unfold bitAt
  rw [nth_digit h, bit_digit (by omega), div_P2]
theorem bitAt_lt (n i : Nat) : bitAt n i < 2 := Nat.mod_lt _ (by omega)
theorem bitAt_ge {n i : Nat} (h : n < P2 i) : bitAt n i = 0 := by unfold bitAt; rw [Nat.div_eq_of_lt h]

set_option maxHeartbeats 1000000 in
set_option maxRecDepth 100000 in
theorem bitR_any {w : World} {v : Value} {m : Nat} (ha : IsR w v m) (i : Nat) (hi : i < 9223372036854775808) (L : Nat) (hL : L ≤ 8589934592) (hm : m < P2 L) :
    Calls Try.prog 79 #[v, .int .i64 i] w fun e w' => e = .returned (.int .i64 (bitAt m i : Nat)) ∧ ∃ n, w' = w.drewN n := by
  obtain ⟨xs, ha, hca, rfl⟩ := ha
  have l1 := hca.len_R hm
  obtain ⟨ao, N, cap, b, off, rfl, hs⟩ := ha
  rw [hs.len] at l1
  have hN : N ≤ 600000000 := by omega
  have hv := val_lt hca.1
  rw [P2_16, hs.len] at hv
  have hi0 : decide ((i : Int) < 0) = false := decide_eq_false (by omega)
  by_cases h : 16 * N ≤ i
  · have hz := bitAt_ge (lt_P2_mono hv h)
    have HZ := Lib.hid hz
    have hd : decide (16 * (N : Int) ≤ (i : Int)) = true := decide_eq_true (by omega)
    clear hz hv hm
    go_enter Try.func79, Try.ntmps79
    go_wp2
    go_ret
    exact ⟨by rw [HZ.out]; rfl, 0, rfl⟩
  · have hd : decide (16 * (N : Int) ≤ (i : Int)) = false := decide_eq_false (by omega)
    have HB := Lib.hid (bitAt_digit hca.1 i)
    have hk : i / 16 < N := by omega
    obtain rfl := hs.addr.resolve_right (by omega)
    have hc1 := hs.cells (i / 16) hk
    have hx := hca.1.nth (by omega) (i / 16)
    have hq := pow_small (show i % 16 < 16 by omega)
    have HW := Lib.hid (fun w0 => power_any (i % 16) (by omega) w0)
    have e1 : Int.tdiv (i : Int) 16 = ((i / 16 : Nat) : Int) := rfl
    have e2 : Int.tmod (i : Int) 16 = ((i % 16 : Nat) : Int) := rfl
    have e3 : (i : Int) / 16 = ((i / 16 : Nat) : Int) := rfl
    have e4 : (i : Int) % 16 = ((i % 16 : Nat) : Int) := rfl
    generalize 2 ^ (i % 16) = q at *
    generalize i % 16 = s at *
    generalize hkk : i / 16 = k at *
    generalize nth xs k = x at *
    obtain ⟨hq1, hq2⟩ := hq
    have hq0 : ¬ q = 0 := by omega
    have hd3 : x / q ≤ 65535 := by have := Nat.div_le_self x q; omega
    have e5 : Int.tdiv (x : Int) (q : Int) = ((x / q : Nat) : Int) := rfl
    have e6 : (x : Int) / (q : Int) = ((x / q : Nat) : Int) := rfl
    generalize x / q = d at *
    have e7 : Int.tmod (d : Int) 2 = ((d % 2 : Nat) : Int) := rfl
    have e8 : (d : Int) % 2 = ((d % 2 : Nat) : Int) := rfl
    have ht : d % 2 < 2 := Nat.mod_lt _ (by omega)
    generalize d % 2 = t at *
    have W1 : IntKind.i64.wrap (d : Int) = (d : Int) := IntWalk.i64_in _ (by omega)
    have W2 : IntKind.i64.wrap (t : Int) = (t : Int) := IntWalk.i64_in _ (by omega)
    have W3 : IntKind.i64.wrap (k : Int) = (k : Int) := IntWalk.i64_in _ (by omega)
    have W4 : IntKind.i64.wrap (s : Int) = (s : Int) := IntWalk.i64_in _ (by omega)
    clear hv hm h hi hkk
    go_enter Try.func79, Try.ntmps79
    go_wp2
    go_quiet ((go_at_call 113; (with_reducible refine Calls.quiet_of_same (HW.out _))))
    go_wp2
    go_ret
    exact ⟨by rw [← HB.out]; rfl, _, rfl⟩

end Go.Proofs.Ytppbhjhbaknidaa
