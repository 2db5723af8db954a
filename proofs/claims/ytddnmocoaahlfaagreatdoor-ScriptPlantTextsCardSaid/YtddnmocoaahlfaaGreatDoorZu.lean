/-
  What the reference's ParseEvent reads, in plain Lean. No condition.
-/
import Derived.Test.YtddnmocoaahlfaaGreatDoorZt
import Derived.Test.YtddnmocoaahlfaaGreatDoorZr
set_option linter.unusedVariables false
set_option linter.unusedSimpArgs false

namespace Go.Proofs.YtddnmocoaahlfaaGreatDoor
open Go.RowKit Go.Shelf
end Go.Proofs.YtddnmocoaahlfaaGreatDoor
