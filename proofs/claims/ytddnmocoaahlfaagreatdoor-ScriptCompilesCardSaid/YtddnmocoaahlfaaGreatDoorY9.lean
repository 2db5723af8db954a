/-
  The readers of a plant's lines: those of one number.
  The readers of a plant's lines: alphabet, check, layout, costs; and the places of single numbers.
  The readers of a plant's lines: check and layout.
  The reader of a plant's banned words.
  The lines of a plant: words and readers. Conditions: the package-level variables hold what the program lays; short words; the plant bans none yet; those of the readers.
-/
import Derived.Test.YtddnmocoaahlfaaGreatDoorY36
import Derived.Test.YtddnmocoaahlfaaGreatDoorZr
import Derived.BigQuiet
import Derived.Deep.RegionHeld3
import Derived.Test.YtddnmocoaahlfaaGreatDoorY30
set_option linter.unusedVariables false
set_option linter.unusedSimpArgs false
namespace Go.Proofs.YtddnmocoaahlfaaGreatDoor
open Go.RowKit Go.Shelf
structure PA (w : World) (R : Nat) (q : PV) (bv : Value) (ss : List ByteArray) : Prop where
  blk : Blk w R (q.cells bv) 35
  row : SRw w bv ss
  ne : ∀ L o m c, bv = .slice (some ⟨L, o, none⟩) m c → ss ≠ [] → R < L
  nl : ss = [] → bv = .slice none 0 0
theorem srw_stays {M : Nat → Prop} {w w' : World} {v : Value} {ss : List ByteArray} (h : SRw w v ss) (b : Stays M w w') (hM : ∀ L o m c, v = .slice (some ⟨L, o, none⟩) m c → ss ≠ [] → ¬ M L) : SRw w' v ss := by
  rcases h with h | ⟨h0, L, o, c, h1, h2, h3⟩
  · exact .inl h
  · refine .inr ⟨h0, L, o, c, h1, h2, fun j hj => ?_⟩
    have hc := h3 j hj
    exact (World.cell?_of_block (a := ⟨L, o + j, none⟩) (b.block L (World.block_lt_of_cell? w _ hc) (hM L o _ c h1 h0))).trans hc
theorem PA.below {w w' : World} {R : Nat} {q : PV} {bv : Value} {ss : List ByteArray} (h : PA w R q bv ss) (b : Below w.heap.size w w') : PA w' R q bv ss := ⟨h.blk.below b, h.row.below b, h.ne, h.nl⟩
end Go.Proofs.YtddnmocoaahlfaaGreatDoor
namespace Go.Proofs.YtddnmocoaahlfaaGreatDoor
open Go.RowKit Go.Shelf
end Go.Proofs.YtddnmocoaahlfaaGreatDoor
namespace Go.Proofs.YtddnmocoaahlfaaGreatDoor
open Go.RowKit Go.Shelf
end Go.Proofs.YtddnmocoaahlfaaGreatDoor
namespace Go.Proofs.YtddnmocoaahlfaaGreatDoor
open Go.RowKit Go.Shelf
end Go.Proofs.YtddnmocoaahlfaaGreatDoor
namespace Go.Proofs.YtddnmocoaahlfaaGreatDoor
open Go.RowKit Go.Shelf
theorem Blk.newAt {w : World} {n : Nat} (hn : w.heap.size = n) (cs : Array Value) (T : TypeId) : Blk (w.alloc (.cells cs T)) n cs T := by
  subst hn
  exact Blk.new w cs T
end Go.Proofs.YtddnmocoaahlfaaGreatDoor
