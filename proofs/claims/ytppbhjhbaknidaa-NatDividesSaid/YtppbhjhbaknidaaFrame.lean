/-
  What the frame of each law's proof shares: the closed facts of the program, and a slice of integers that came in. No condition.
-/
import Derived.Test.YtppbhjhbaknidaaHead
import Derived.Test.YtppbhjhbaknidaaRows
import Derived.Test.YtppbhjhbaknidaaRefB
import Derived.WalkKit
import Derived.ProofKit
import Derived.OpenShut
import Derived.ShutString
import Derived.ChangeOld
import Derived.Below
namespace Go.Proofs.Ytppbhjhbaknidaa
open Go.RowKit

theorem own : ownKnob Try.prog.godebug = none := by kernel_rfl
theorem laidOut : laidOutB Try.prog = true := by kernel_rfl

/-- A slice of integers that came in: nil, or a row of 'cap' cells, the numbers 'zs'. -/
def IsRow (k : IntKind) (w : World) (a : Option Addr) (len cap : Nat) (zs : List Int) : Prop :=
  (a = none ∧ len = 0 ∧ cap = 0 ∧ zs = []) ∨
  ∃ x, a = some x ∧ len ≤ cap ∧ cap ≤ maxLen ∧ zs.length = cap ∧ (∀ i, i < zs.length → w.cell? (x.add i) = some (.int k (zs.getD i 0))) ∧ ∀ n ∈ zs, (Lit.int k n).wf = true

theorem u16_of_wf {n : Int} (h : (Lit.int .u16 n).wf = true) : 0 ≤ n ∧ n < 65536 := by
  simp [Lit.wf, IntKind.min, IntKind.max, IntKind.bits, IntKind.signed] at h
  omega

theorem IsRow.in16 {w : World} {a : Option Addr} {len cap : Nat} {zs : List Int} (h : IsRow .u16 w a len cap zs) : In16 w (.slice a len cap) := by
  rcases h with ⟨rfl, rfl, rfl, rfl⟩ | ⟨x, rfl, h1, h2, h3, h4, h5⟩
  · exact ⟨none, 0, 0, rfl, by omega, .inl rfl⟩
  · refine ⟨some x, len, cap, rfl, by unfold maxLen at h2; omega, .inr ⟨x, rfl, fun i => (zs.getD i 0).toNat, fun i hi => ?_⟩⟩
    have hi' : i < zs.length := by omega
    have hc := h4 i hi'
    have hm : zs.getD i 0 ∈ zs := by
      rw [List.getD_eq_getElem?_getD, List.getElem?_eq_getElem hi']
      exact List.getElem_mem hi'
    have hu := u16_of_wf (h5 _ hm)
    refine ⟨?_, by show (zs.getD i 0).toNat < 65536; omega⟩
    rw [hc]
    show some (Value.int .u16 (zs.getD i 0)) = some (Value.int .u16 (((zs.getD i 0).toNat : Nat) : Int))
    rw [Int.toNat_of_nonneg hu.1]

end Go.Proofs.Ytppbhjhbaknidaa
