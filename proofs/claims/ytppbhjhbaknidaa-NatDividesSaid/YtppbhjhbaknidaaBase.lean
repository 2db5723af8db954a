/-
  Slices of numbers as lists: what a slice value reads as, and that it reads so in every later world. No condition. (The base of all contracts of this seat.)
-/
import Derived.Test.YtppbhjhbaknidaaChecked
import Derived.WalkKit
import Derived.WalkSpells
import Derived.BigQuiet
import Derived.Lib.Hide
import Derived.Deep.QuietTactic
namespace Go.Proofs.Ytppbhjhbaknidaa
open Go.RowKit

/-- The i-th number of a list, 0 behind its end (a name that the walk does not open). -/
def nth (xs : List Nat) (i : Nat) : Nat := xs.getD i 0

theorem nth_lt {xs : List Nat} {i : Nat} (h : i < xs.length) : nth xs i = xs[i] := by simp [nth, h]
theorem nth_ge {xs : List Nat} {i : Nat} (h : xs.length ≤ i) : nth xs i = 0 := by simp [nth, h]
theorem nth_nil (i : Nat) : nth [] i = 0 := rfl
theorem nth_zero (x : Nat) (xs : List Nat) : nth (x :: xs) 0 = x := rfl
theorem nth_succ (x : Nat) (xs : List Nat) (i : Nat) : nth (x :: xs) (i + 1) = nth xs i := rfl
theorem nth_take {xs : List Nat} {m i : Nat} (h : i < m) : nth (xs.take m) i = nth xs i := by
  simp only [nth, List.getD_eq_getElem?_getD, List.getElem?_take, if_pos h]
theorem nth_drop (xs : List Nat) (m i : Nat) : nth (xs.drop m) i = nth xs (m + i) := by
  simp [nth, List.getD_eq_getElem?_getD, List.getElem?_drop]
theorem nth_append_left {xs ys : List Nat} {i : Nat} (h : i < xs.length) : nth (xs ++ ys) i = nth xs i := by
  simp [nth, List.getD_eq_getElem?_getD, List.getElem?_append_left h]
theorem nth_append_right {xs ys : List Nat} {i : Nat} (h : xs.length ≤ i) : nth (xs ++ ys) i = nth ys (i - xs.length) := by
  simp [nth, List.getD_eq_getElem?_getD, List.getElem?_append_right h]

/-- The list without zeros at its end. -/
def trim : List Nat → List Nat
  | [] => []
  | x :: xs => match trim xs with
    | [] => if x = 0 then [] else [x]
    | y :: ys => x :: y :: ys

theorem trim_zero (xs : List Nat) (h : ∀ i, nth xs i = 0) : trim xs = [] := by
  induction xs with
  | nil => rfl
  | cons x xs ih =>
    have h0 : x = 0 := h 0
    have := ih (fun i => h (i + 1))
    simp [trim, this, h0]

theorem trim_take (xs : List Nat) : ∀ m, m ≤ xs.length → (∀ i, m ≤ i → nth xs i = 0) → (m = 0 ∨ nth xs (m - 1) ≠ 0) → trim xs = xs.take m := by
  induction xs with
  | nil => intro m _ _ _; simp [trim]
  | cons x xs ih =>
    intro m hm hz hl
    cases m with
    | zero => simpa using trim_zero _ (fun i => hz i (Nat.zero_le _))
    | succ m =>
      have hz' : ∀ i, m ≤ i → nth xs i = 0 := fun i hi => by simpa [nth_succ] using hz (i + 1) (by omega)
      simp only [List.length_cons, Nat.add_le_add_iff_right] at hm
      cases m with
      | zero =>
        have : trim xs = [] := trim_zero _ (fun i => hz' i (Nat.zero_le _))
        have hx : x ≠ 0 := by simpa [nth_zero] using hl
        simp [trim, this, hx]
      | succ m =>
        have hl' : nth xs m ≠ 0 := by
          rcases hl with h | h
          · omega
          · simpa [nth_succ] using h
        have := ih (m + 1) hm hz' (.inr (by simpa using hl'))
        rw [trim, this]
        cases hx : xs.take (m + 1) with
        | nil => 
          have := congrArg List.length hx
          rw [List.length_take, List.length_nil] at this
          omega
        | cons y ys => simp [hx]

/-- What a slice value of numbers reads as: it is nil and empty, or its cells lie from 'off' on in block b. -/
structure SlAt (w : World) (K : IntKind) (ao : Option Addr) (n cap b off : Nat) (xs : List Nat) : Prop where
  len : xs.length = n
  le : n ≤ cap
  max : n ≤ 1099511627776 ∧ cap ≤ 9223372036854775807
  addr : ao = some ⟨b, off, none⟩ ∨ (ao = none ∧ n = 0 ∧ cap = 0)
  cells : ∀ i, i < n → w.cell? ⟨b, off + i, none⟩ = some (.int K (nth xs i))
  wf : ∀ x ∈ xs, (Lit.int K x).wf = true

def Sl (w : World) (K : IntKind) (v : Value) (xs : List Nat) : Prop :=
  ∃ ao n cap b off, v = .slice ao n cap ∧ SlAt w K ao n cap b off xs

theorem SlAt.sl {w : World} {K : IntKind} {ao : Option Addr} {n cap b off : Nat} {xs : List Nat} (h : SlAt w K ao n cap b off xs) : Sl w K (.slice ao n cap) xs :=
  ⟨ao, n, cap, b, off, rfl, h⟩

theorem SlAt.lt {w : World} {K : IntKind} {ao : Option Addr} {n cap b off : Nat} {xs : List Nat} (h : SlAt w K ao n cap b off xs) (hn : 0 < n) : b < w.heap.size :=
  World.block_lt_of_cell? w _ (h.cells 0 hn)

theorem SlAt.below {w w' : World} {K : IntKind} {ao : Option Addr} {n cap b off : Nat} {xs : List Nat} (h : SlAt w K ao n cap b off xs) (hb : Below w.heap.size w w') : SlAt w' K ao n cap b off xs :=
  { h with cells := fun i hi => by rw [hb.cell (p := ⟨b, off + i, none⟩) (h.lt (by omega))]; exact h.cells i hi }

theorem Sl.below {w w' : World} {K : IntKind} {v : Value} {xs : List Nat} (h : Sl w K v xs) (hb : Below w.heap.size w w') : Sl w' K v xs := by
  obtain ⟨ao, n, cap, b, off, rfl, h⟩ := h
  exact (h.below hb).sl

theorem Sl.nil (w : World) (K : IntKind) : Sl w K (.slice none 0 0) [] :=
  ⟨none, 0, 0, 0, 0, rfl, rfl, Nat.le_refl _, by omega, .inr ⟨rfl, rfl, rfl⟩, fun i hi => by omega, fun _ h => by cases h⟩

theorem wf_take {K : IntKind} {xs : List Nat} (h : ∀ x ∈ xs, (Lit.int K x).wf = true) (m : Nat) : ∀ x ∈ xs.take m, (Lit.int K x).wf = true :=
  fun x hx => h x (List.mem_of_mem_take hx)

end Go.Proofs.Ytppbhjhbaknidaa
