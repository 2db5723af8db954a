/-
  The program's ParsePlant: the text is cut line by line. Conditions: the package-level variables hold what the program lays; a short text.
-/
import Derived.Test.YtddnmocoaahlfaaGreatDoorY9
import Derived.Test.YtddnmocoaahlfaaGreatDoorZr
set_option linter.unusedVariables false
set_option linter.unusedSimpArgs false
namespace Go.Proofs.YtddnmocoaahlfaaGreatDoor
open Go.RowKit Go.Shelf
theorem txt_eq {a b : ByteArray} (h : txt a = txt b) : a = b := by
  have h2 : a.data = b.data := Array.toList_inj.1 h
  cases a; cases b; simp only at h2; rw [h2]
end Go.Proofs.YtddnmocoaahlfaaGreatDoor
