/-
  Slices of words to the base 2^32 as natural numbers; powers of two as bounds. No condition.
-/
import Derived.Test.YtppbhjhbaknidaaOwn
namespace Go.Proofs.Ytppbhjhbaknidaa
open Go.RowKit

/-- 2 to the power k, behind a name. -/
def P2 (k : Nat) : Nat := 2 ^ k
theorem P2_pos (k : Nat) : 0 < P2 k := Nat.pow_pos (by omega)
theorem P2_add (a b : Nat) : P2 (a + b) = P2 a * P2 b := Nat.pow_add 2 a b
theorem P2_succ (a : Nat) : P2 (a + 1) = 2 * P2 a := by unfold P2; rw [Nat.pow_succ]; omega
theorem P2_mono {a b : Nat} (h : a ≤ b) : P2 a ≤ P2 b := Nat.pow_le_pow_right (by omega) h
theorem P2_lt {a b : Nat} (h : P2 a < P2 b) : a < b := (Nat.pow_lt_pow_iff_right (by omega)).1 h
theorem P2_32 (k : Nat) : 4294967296 ^ k = P2 (32 * k) := by
  unfold P2; rw [Nat.pow_mul]
theorem P2_16 (k : Nat) : 65536 ^ k = P2 (16 * k) := by
  unfold P2; rw [Nat.pow_mul]
theorem lt_P2_mono {n a b : Nat} (h : n < P2 a) (hab : a ≤ b) : n < P2 b := Nat.lt_of_lt_of_le h (P2_mono hab)
theorem mul_lt_P2 {m n a b : Nat} (hm : m < P2 a) (hn : n < P2 b) : m * n < P2 (a + b) := by
  rw [P2_add]
  exact Nat.mul_lt_mul'' hm hn
theorem add_lt_P2 {m n a : Nat} (hm : m < P2 a) (hn : n < P2 a) : m + n < P2 (a + 1) := by
  rw [P2_succ]; omega

/-- The slice value v holds the words of the number n, without zeros at the top. -/
def IsN (w : World) (v : Value) (n : Nat) : Prop := ∃ xs, Sl w .u32 v xs ∧ Can 4294967296 xs ∧ val 4294967296 xs = n

theorem IsN.below {w w' : World} {v : Value} {n : Nat} (h : IsN w v n) (hb : Below w.heap.size w w') : IsN w' v n :=
  let ⟨xs, h1, h2, h3⟩ := h
  ⟨xs, h1.below hb, h2, h3⟩

theorem IsN.zero (w : World) : IsN w (.slice none 0 0) 0 := ⟨[], Sl.nil w _, Can.nil _, rfl⟩

def RetN (w : World) (n : Nat) (e : Ending) (w' : World) : Prop := ∃ v, e = .returned v ∧ IsN w' v n ∧ Below w.heap.size w w'

theorem Can.len_P2 {xs : List Nat} (h : Can 4294967296 xs) {L : Nat} (hn : val 4294967296 xs < P2 L) : 32 * xs.length < L + 32 := by
  by_cases he : xs = []
  · simp [he]
  · have h1 := h.ge he
    rw [P2_32] at h1
    have := P2_lt (Nat.lt_of_le_of_lt h1 hn)
    have : 0 < xs.length := List.length_pos_iff.2 he
    omega

theorem wf_u32 {n : Nat} (h : n < 4294967296) : (Lit.int .u32 (n : Int)).wf = true := WalkArith.wf_u32 (by omega)
theorem Dg.wf32 {xs : List Nat} (h : Dg 4294967296 xs) : ∀ x ∈ xs, (Lit.int .u32 (x : Int)).wf = true := fun x hx => wf_u32 (h x hx)

/-- A norm's result, as a number. -/
theorem RetSl.num {w w0 w' : World} {xs : List Nat} {e : Ending} (h : RetSl .u32 w (trim xs) e w') (hd : Dg 4294967296 xs) {n : Nat} (hn : val 4294967296 xs = n) (hb : Below w0.heap.size w0 w) : RetN w0 n e w' := by
  obtain ⟨v, he, hv, hb'⟩ := h
  exact ⟨v, he, ⟨_, hv, hd.can, by rw [val_trim, hn]⟩, hb.trans (hb'.mono hb.size)⟩

theorem Own.seti {w : World} {K : IntKind} {E : TypeId} {g : Nat} {xs : List Nat} (h : Own w K E g xs) (i : Nat) {z : Int} (d : Nat) (hz : z = d) :
    Own (w.setCell ⟨g, i, none⟩ (.int K z)) K E g (xs.set i d) := by subst hz; exact h.set i d

theorem Dg.snoc {b : Nat} {xs : List Nat} (h : Dg b xs) {d : Nat} (hd : d < b) : Dg b (xs ++ [d]) := fun x hx => by
  rcases List.mem_append.1 hx with hx | hx
  · exact h x hx
  · rw [List.mem_singleton.1 hx]; exact hd
theorem Dg.append {b : Nat} {xs ys : List Nat} (h : Dg b xs) (h2 : Dg b ys) : Dg b (xs ++ ys) := fun x hx => by
  rcases List.mem_append.1 hx with hx | hx
  · exact h x hx
  · exact h2 x hx
theorem Dg.nil (b : Nat) : Dg b [] := fun _ hx => absurd hx List.not_mem_nil

theorem set_zeros (ys : List Nat) (k n d : Nat) (hk : ys.length = k) (hn : k < n) : (ys ++ List.replicate (n - k) 0).set k d = (ys ++ [d]) ++ List.replicate (n - (k + 1)) 0 := by
  obtain ⟨m, hm⟩ : ∃ m, n - k = m + 1 := ⟨n - k - 1, by omega⟩
  have hm' : n - (k + 1) = m := by omega
  rw [hm, hm', List.replicate_succ, List.set_append_right _ _ (by omega), hk, Nat.sub_self, List.set_cons_zero, List.append_assoc, List.singleton_append]

theorem wrap_u64 (n : Int) : IntKind.u64.wrap n = n % 18446744073709551616 := by
  simp [IntKind.wrap, IntKind.bits, IntKind.signed]

theorem nth_set_ne (zs : List Nat) (i d t : Nat) (h : i ≠ t) : nth (zs.set i d) t = nth zs t := by
  simp [nth, List.getD_eq_getElem?_getD, h]
theorem nth_set_eq (zs : List Nat) (i d : Nat) (h : i < zs.length) : nth (zs.set i d) i = d := by
  simp [nth, List.getD_eq_getElem?_getD, h]
theorem nth_zeros (n i : Nat) : nth (List.replicate n 0) i = 0 := by
  simp only [nth, List.getD_eq_getElem?_getD, List.getElem?_replicate]
  split <;> rfl
theorem Own.drewN {w : World} {K : IntKind} {E : TypeId} {g : Nat} {xs : List Nat} (h : Own w K E g xs) (n : Nat) : Own (w.drewN n) K E g xs := h
theorem below_drewN' {B : Nat} {a w : World} (h : Below B a w) (n : Nat) : Below B a (w.drewN n) := ⟨h.os, h.tape, h.output, h.size, h.block⟩

end Go.Proofs.Ytppbhjhbaknidaa
