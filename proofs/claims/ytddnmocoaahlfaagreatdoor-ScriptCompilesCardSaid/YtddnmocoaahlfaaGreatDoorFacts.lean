/-
  Closed facts of the translated program that every card of this seat asks. No condition.
-/
import Derived.Test.YtddnmocoaahlfaaGreatDoorHead
import Derived.Test.YtddnmocoaahlfaaGreatDoorRows
import Derived.ProofKit
import Derived.SevenTiedAt
import Derived.Stop.Joined
set_option linter.unusedVariables false
set_option linter.unusedSimpArgs false
namespace Go.Proofs.YtddnmocoaahlfaaGreatDoor
theorem own_knob : ownKnob Tryz.prog.godebug = none := by kernel_rfl
theorem card_main : Tryz.prog.mainIs = some (true, "14d303dac07ebf1f7eb830dc8d4e490dfd26eabe3c4d58be7c64f9b7e973ec20".toList) := by
  unfold Program.mainIs
  rw [Head.io, String.toList_ofList, Head.words_snoc _ (by decide +kernel), Head.words_snoc _ (by decide +kernel), Head.spelt "14d303dac07ebf1f7eb830dc8d4e490dfd26eabe3c4d58be7c64f9b7e973ec20" Head.w2 (by kernel_rfl)]
  show (if !isSumSigns (Head.nm Head.w2) then none else if Head.nm Head.w1 == "harness".toList then some (true, Head.nm Head.w2) else if Head.nm Head.w1 == "ownmain".toList then some (false, Head.nm Head.w2) else none) = _
  rw [show isSumSigns (Head.nm Head.w2) = true by decide +kernel, Head.harnessIs, beq_self_eq_true]
  rfl
theorem card_looks : true = Tryz.prog.looks [] := by kernel_rfl
end Go.Proofs.YtddnmocoaahlfaaGreatDoor
