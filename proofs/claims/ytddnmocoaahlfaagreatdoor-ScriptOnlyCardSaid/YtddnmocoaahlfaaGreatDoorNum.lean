/-
  The law's own check of a number, and the reference's number texts: Number writes the decimal text. No condition but that the number is an int.
-/
import Derived.Test.YtddnmocoaahlfaaGreatDoorBase
import Derived.Test.YtddnmocoaahlfaaGreatDoorTxt
import Derived.Lib.ItoaLen
set_option linter.unusedVariables false
set_option linter.unusedSimpArgs false

namespace Go.Proofs.YtddnmocoaahlfaaGreatDoor
open Go.RowKit
end Go.Proofs.YtddnmocoaahlfaaGreatDoor
