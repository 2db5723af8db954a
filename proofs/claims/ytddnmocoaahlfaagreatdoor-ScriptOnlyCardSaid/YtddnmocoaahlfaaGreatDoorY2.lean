/-
  Eval: the value of an expression for names and their values, or its error. Conditions: the bounds that it states.
  What the arguments of the laws are in memory: rows of ints, rows of strings, acts, events. No condition.
  What a plant is in memory, and as an argument of a law. No condition.
-/
import Derived.Test.YtddnmocoaahlfaaGreatDoorLine
import Derived.Test.YtddnmocoaahlfaaGreatDoorMach
import Derived.Test.YtddnmocoaahlfaaGreatDoorGuard
import Derived.StillTailTactics
import Derived.Laws.EntriesVeiled
import Derived.Deep.WholeRow
import Derived.ProofKit
import Derived.Lib.SmallJoins
import Derived.Test.YtddnmocoaahlfaaGreatDoorPlt
set_option linter.unusedVariables false
set_option linter.unusedSimpArgs false

namespace Go.Proofs.YtddnmocoaahlfaaGreatDoor
open Go.RowKit Go.Maps Go.WideMaps
theorem SRow.form {w : World} {v : Value} {ss : List ByteArray} (h : SRow w v ss) : ∃ a c, v = .slice a ss.length c := by
  rcases h with ⟨rfl, a, c, rfl⟩ | ⟨_, L, o, c, rfl, _⟩
  · exact ⟨a, c, rfl⟩
  · exact ⟨_, c, rfl⟩
/-- A row of strings, whatever block it lies in. -/
def SRw (w : World) (v : Value) (ss : List ByteArray) : Prop :=
  (ss = [] ∧ ∃ a c, v = .slice a 0 c) ∨ (ss ≠ [] ∧ ∃ L o c, v = .slice (some ⟨L, o, none⟩) ss.length c ∧ ss.length ≤ c ∧ ∀ j (h : j < ss.length), w.cell? ⟨L, o + j, none⟩ = some (.string ss[j]))
theorem SRow.rw {w : World} {v : Value} {ss : List ByteArray} (h : SRow w v ss) : SRw w v ss := by
  rcases h with h | ⟨h0, L, o, c, h1, h2, _, h3⟩
  · exact .inl h
  · exact .inr ⟨h0, L, o, c, h1, h2, h3⟩
theorem SRw.below {w w' : World} {v : Value} {ss : List ByteArray} (h : SRw w v ss) (b : Below w.heap.size w w') : SRw w' v ss := by
  rcases h with h | ⟨h0, L, o, c, h1, h2, h3⟩
  · exact .inl h
  · exact .inr ⟨h0, L, o, c, h1, h2, fun j hj => cell_below (h3 j hj) b⟩
theorem SRw.form {w : World} {v : Value} {ss : List ByteArray} (h : SRw w v ss) : ∃ a c, v = .slice a ss.length c := by
  rcases h with ⟨rfl, a, c, rfl⟩ | ⟨_, L, o, c, rfl, _⟩
  · exact ⟨a, c, rfl⟩
  · exact ⟨_, c, rfl⟩
end Go.Proofs.YtddnmocoaahlfaaGreatDoor
namespace Go.Proofs.YtddnmocoaahlfaaGreatDoor
open Go.ChangeShapes Go.WideShapes Go.ChangeAt Go.RowKit
variable {H : Type} {enc : TypeId × Value → H}
end Go.Proofs.YtddnmocoaahlfaaGreatDoor
namespace Go.Proofs.YtddnmocoaahlfaaGreatDoor
open Go.ChangeShapes Go.WideShapes Go.ChangeAt Go.RowKit
/-- The plain cells of a plant: all but the row of banned strings. -/
structure PV where
  al : ByteArray
  ln : Int
  ck : Bool
  rows : Int
  cols : Int
  ream : Int
  bundle : Int
  dn : Bool
  reprint : Int
  star : Int
  opn : Int
  sheets : Int
  presses : Int
  life : Int
  plates : Int
  dry : Int
  vaults : Int
  blocks : Int
/-- A plant's cells. -/
abbrev PV.cells (p : PV) (bv : Value) : Array Value := #[.string p.al, .int .i64 p.ln, bv, .bool p.ck, .int .i64 p.rows, .int .i64 p.cols, .int .i64 p.ream, .int .i64 p.bundle, .bool p.dn, .int .i64 p.reprint, .int .i64 p.star, .int .i64 p.opn, .int .i64 p.sheets, .int .i64 p.presses, .int .i64 p.life, .int .i64 p.plates, .int .i64 p.dry, .int .i64 p.vaults, .int .i64 p.blocks]
/-- The plant of the cells and of the banned strings. -/
def PV.pl (p : PV) (bs : List (List UInt8)) : Pl := ⟨txt p.al, p.ln, bs, p.ck, p.rows, p.cols, p.ream, p.bundle, p.dn, p.reprint, p.star, p.opn, p.sheets, p.presses, p.life, p.plates, p.dry, p.vaults, p.blocks⟩
def PV.zero : PV := ⟨⟨#[]⟩, 0, false, 0, 0, 0, 0, false, 0, 0, 0, 0, 0, 0, 0, 0, 0, 0⟩
variable {H : Type} {enc : TypeId × Value → H}
end Go.Proofs.YtddnmocoaahlfaaGreatDoor
