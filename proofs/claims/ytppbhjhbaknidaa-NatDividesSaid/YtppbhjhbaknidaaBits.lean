/-
  The contracts of the program's words and bitLen: the words of a number of 64 bits; the bit length. Condition: numbers of at most 2^33 bits.
-/
import Derived.Test.YtppbhjhbaknidaaNum
import Derived.Test.YtppbhjhbaknidaaShelf
namespace Go.Proofs.Ytppbhjhbaknidaa
open Go.RowKit

/-- The bit length. -/
def blen (n : Nat) : Nat := if n = 0 then 0 else n.log2 + 1

theorem blen_le {n k : Nat} : blen n ≤ k ↔ n < P2 k := by
  unfold blen P2
  by_cases h : n = 0
  · simp [h]; exact Nat.pow_pos (by omega)
  · rw [if_neg h, Nat.succ_le_iff]; exact Nat.log2_lt h

theorem lt_blen {n : Nat} : n < P2 (blen n) := blen_le.1 (Nat.le_refl _)

theorem blen_eq {n k : Nat} (h1 : n < P2 (k + 1)) (h2 : P2 k ≤ n) : blen n = k + 1 := by
  have a := blen_le.2 h1
  have b : ¬ blen n ≤ k := fun h => by have := blen_le.1 h; omega
  omega

theorem bitLenAux_lt (f : Nat) : ∀ x, x < 2 ^ f → ∀ k, Lib.bitLenAux f x ≤ k ↔ x < 2 ^ k := by
  induction f with
  | zero => intro x hx k; have : x = 0 := by omega
            subst this; simp [Lib.bitLenAux]; exact Nat.pow_pos (by omega)
  | succ f ih =>
    intro x hx k
    rw [Lib.bitLenAux]
    by_cases h : x = 0
    · simp [h]; exact Nat.pow_pos (by omega)
    · rw [if_neg h]
      cases k with
      | zero => simp; omega
      | succ k =>
        have hx2 : x / 2 < 2 ^ f := by rw [Nat.pow_succ] at hx; omega
        have := ih (x / 2) hx2 k
        rw [Nat.pow_succ]
        omega

theorem bitLen_eq {x : Nat} (h : x < 2 ^ 64) : Lib.bitLen x = blen x := by
  have a := bitLenAux_lt 64 x h
  have b1 : Lib.bitLen x ≤ blen x := (a _).2 lt_blen
  have b2 : blen x ≤ Lib.bitLen x := blen_le.2 ((a _).1 (Nat.le_refl _))
  omega

theorem blen_top {xs : List Nat} (h : Can 4294967296 xs) (hn : xs ≠ []) : blen (val 4294967296 xs) = 32 * (xs.length - 1) + blen (nth xs (xs.length - 1)) ∧ 1 ≤ blen (nth xs (xs.length - 1)) ∧ blen (nth xs (xs.length - 1)) ≤ 32 := by
  have hl : 0 < xs.length := List.length_pos_iff.2 hn
  have e := val_take_drop 4294967296 xs (xs.length - 1) (by omega)
  have e2 : xs.drop (xs.length - 1) = [nth xs (xs.length - 1)] := by
    apply List.ext_getElem
    · simp; omega
    · intro i h1 h2
      simp at h1 h2
      have : i = 0 := by omega
      subst this
      rw [List.getElem_drop, List.getElem_singleton, nth_lt (by omega)]; rfl
  rw [e2] at e
  simp only [val, Nat.mul_zero, Nat.add_zero] at e
  have b1 := val_lt (h.1.take (xs.length - 1))
  rw [List.length_take, Nat.min_eq_left (by omega)] at b1
  have hg := h.ge hn
  have hd := h.1.nth (by omega) (xs.length - 1)
  rw [P2_32] at e b1 hg
  generalize nth xs (xs.length - 1) = d at *
  generalize val 4294967296 (xs.take (xs.length - 1)) = r at *
  generalize 32 * (xs.length - 1) = p at *
  have hd0 : d ≠ 0 := by intro h0; subst h0; omega
  have hb : 1 ≤ blen d := by
    have : ¬ blen d ≤ 0 := fun h => by have := blen_le.1 h; unfold P2 at this; omega
    omega
  have hb32 : blen d ≤ 32 := blen_le.2 (by unfold P2; omega)
  obtain ⟨q, hq⟩ : ∃ q, blen d = q + 1 := ⟨blen d - 1, by omega⟩
  have h1 : d < P2 (q + 1) := by rw [← hq]; exact lt_blen
  have h2 : P2 q ≤ d := by
    have : ¬ blen d ≤ q := by omega
    have := mt blen_le.2 this
    omega
  refine ⟨?_, hb, hb32⟩
  rw [hq, ← Nat.add_assoc]
  apply blen_eq
  · rw [Nat.add_assoc, P2_add, e]
    have : P2 p * (d + 1) ≤ P2 p * P2 (q + 1) := Nat.mul_le_mul_left _ h1
    rw [Nat.mul_add] at this
    omega
  · rw [P2_add, e]
    have : P2 p * P2 q ≤ P2 p * d := Nat.mul_le_mul_left _ h2
    omega

set_option maxHeartbeats 400000 in
theorem bitLen_any {w : World} {v : Value} {n : Nat} (ha : IsN w v n) (L : Nat) (hL : L ≤ 8589934592) (hn : n < P2 L) :
    Calls Try.prog 118 #[v] w (fun e w' => e = .returned (.int .i64 (blen n)) ∧ w' = w) := by
  obtain ⟨xs, ha, hca, rfl⟩ := ha
  have l1 := hca.len_P2 hn
  obtain ⟨ao, k, cap, b, off, rfl, hs⟩ := ha
  rw [hs.len] at l1
  have hle := hs.le
  have hmax := hs.max
  by_cases h0 : k = 0
  · have hx : xs = [] := List.eq_nil_of_length_eq_zero (by rw [hs.len, h0])
    have hb : ((k : Int) == 0) = true := by simp [h0]
    subst hx
    go_enter Try.func118, Try.ntmps118
    go_wp2
    go_ret
    exact ⟨rfl, rfl⟩
  · have hb : ((k : Int) == 0) = false := by simp [h0]
    obtain ⟨ht1, ht2, ht3⟩ := blen_top hca (fun h => h0 (by rw [← hs.len, h]; rfl))
    have hd := hca.1.nth (by omega) (xs.length - 1)
    rw [hs.len] at ht1 ht2 ht3 hd
    have HT := Lib.hid ht1
    clear ht1
    obtain rfl := hs.addr.resolve_right (by omega)
    have hc := hs.cells (k - 1) (by omega)
    generalize nth xs (k - 1) = d at *
    go_enter Try.func118, Try.ntmps118
    go_wp2_with fail
    refine (Try.bits_Len32 _ _ (by omega) (by omega)).mono ?_
    rintro e w' ⟨rfl, hw⟩
    subst hw
    rw [Int.toNat_natCast, bitLen_eq (by omega)]
    go_wp2
    go_ret
    refine ⟨?_, rfl⟩
    refine congrArg Ending.returned ?_
    show Value.int IntKind.i64 _ = _
    refine congrArg _ ?_
    rw [HT.out]
    omega

theorem words_eq (x : Nat) : val 4294967296 [x % 4294967296, x / 4294967296] = x := by
  simp only [val]; omega

set_option maxHeartbeats 400000 in
theorem words_any (x : Int) (w : World) (h0 : 0 ≤ x) (h1 : x ≤ 18446744073709551615) : Calls Try.prog 101 #[.int .u64 x] w (RetN w x.toNat) := by
  obtain ⟨n, rfl⟩ := Int.eq_ofNat_of_zero_le h0
  rw [Int.toNat_natCast]
  go_enter Try.func101, Try.ntmps101
  go_wp2_with fail
  have hown : Own (w.alloc (.cells #[.int .u32 ((n : Int) % 4294967296), .int .u32 ((n : Int) / 4294967296)] 115)) .u32 115 w.heap.size [n % 4294967296, n / 4294967296] := by
    unfold Own
    rw [heap_alloc_new]
    simp [cellsOf]
  have hdg : Dg 4294967296 [n % 4294967296, n / 4294967296] := by
    intro x hx
    simp only [List.mem_cons, List.not_mem_nil, or_false] at hx
    omega
  refine (norm_any _ [n % 4294967296, n / 4294967296] _ (hown.sl (n := 2) rfl (by omega) hdg.wf32)).mono ?_
  intro e w2 hr
  obtain ⟨v, rfl, hv, hb3⟩ := hr.num hdg (words_eq n) ((Below.refl _ w).alloc (Nat.le_refl _) _)
  clear hown hdg hr
  go_wp2
  go_ret
  exact ⟨_, rfl, hv, hb3⟩
end Go.Proofs.Ytppbhjhbaknidaa
