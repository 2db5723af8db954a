/-
  What ParseEvent's walk uses: the search for an event's word, rows without their last one, an event's block. No condition but that the table of the kinds of events is laid.
  ParseEvent. Conditions: the package-level variables hold what the program lays; lines of at most 65536 bytes.
-/
import Derived.Test.YtddnmocoaahlfaaGreatDoorZr
import Derived.BigQuiet
set_option linter.unusedVariables false
set_option linter.unusedSimpArgs false

namespace Go.Proofs.YtddnmocoaahlfaaGreatDoor
open Go.RowKit Go.Shelf
end Go.Proofs.YtddnmocoaahlfaaGreatDoor
namespace Go.Proofs.YtddnmocoaahlfaaGreatDoor
open Go.RowKit Go.Shelf
theorem SRw.stays {F : Nat → Prop} {w w' : World} {v : Value} {ss : List ByteArray} (h : SRw w v ss) (hs : Stays F w w') (hF : ∀ L o c n, v = .slice (some ⟨L, o, none⟩) n c → ss ≠ [] → ¬ F L) : SRw w' v ss := by
  rcases h with h | ⟨h0, L, o, c, h1, h2, h3⟩
  · exact .inl h
  · exact .inr ⟨h0, L, o, c, h1, h2, fun i hi => (World.cell?_of_block (a := ⟨L, o + i, none⟩) (hs.block L (World.block_lt_of_cell? w _ (h3 i hi)) (hF _ _ _ _ h1 h0))).trans (h3 i hi)⟩
end Go.Proofs.YtddnmocoaahlfaaGreatDoor
