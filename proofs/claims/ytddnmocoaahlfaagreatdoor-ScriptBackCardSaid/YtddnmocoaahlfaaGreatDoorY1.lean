/-
  What a text of a plant that is parsed tells of its numbers and its length, in plain Lean. No condition; no program in sight.
  The law ScriptOnly, walked. Conditions: the package-level variables hold what the program lays.
-/
import Derived.Test.YtddnmocoaahlfaaGreatDoorPlt
import Derived.Test.YtddnmocoaahlfaaGreatDoorPlI
import Derived.Test.YtddnmocoaahlfaaGreatDoorZv
import Derived.Test.YtddnmocoaahlfaaGreatDoorZt
import Derived.Test.YtddnmocoaahlfaaGreatDoorZr
import Derived.Test.YtddnmocoaahlfaaGreatDoorPrsP
import Derived.Test.YtddnmocoaahlfaaGreatDoorY8
import Derived.Deep.DeepCutAuto
set_option linter.unusedVariables false
set_option linter.unusedSimpArgs false

namespace Go.Proofs.YtddnmocoaahlfaaGreatDoor
end Go.Proofs.YtddnmocoaahlfaaGreatDoor
namespace Go.Proofs.YtddnmocoaahlfaaGreatDoor
open Go.RowKit Go.Shelf
theorem zero35 (w : World) : (Instr.alloc 35 true (.tuple #[])).run Tryz.prog w = .ok (.pointer (some ⟨w.heap.size, 0, none⟩)) (w.alloc (.cells (PV.zero.cells (.slice none 0 0)) 35)) := by kernel_rfl
theorem RetTE.zero {w : World} {t : List UInt8} {r : List UInt8 × Int} {e : Ending} {w' : World} (h : RetTE w r e w') (hr : r = (t, 0)) : Below w.heap.size w w' ∧ ∃ s : ByteArray, e = .returned (.tuple #[.string s, .int .i64 0]) ∧ txt s = t := by
  subst hr
  exact h
end Go.Proofs.YtddnmocoaahlfaaGreatDoor
