/-
  What ParseEvent's walk uses: the search for an event's word, rows without their last one, an event's block. No condition but that the table of the kinds of events is laid.
  ParseEvent. Conditions: the package-level variables hold what the program lays; lines of at most 65536 bytes.
-/
import Derived.Test.YtddnmocoaahlfaaGreatDoorZr
import Derived.BigQuiet
set_option linter.unusedVariables false
set_option linter.unusedSimpArgs false
namespace Go.Proofs.YtddnmocoaahlfaaGreatDoor
open Go.RowKit Go.Shelf
theorem init27 (a : Addr) (m c : Nat) (hc : m + 1 ≤ c) (w : World) : (Instr.sliceAt 27 (.slice (some a) (m + 1) c) none (some (.int .i64 (m : Nat))) none).run Tryz.prog w = .ok (.slice (some a) m c) w := by
  rw [run_sliceAt_slice w 27 _ _ _ _ elem27, run_slice_h w 27 _ _ _ elem27 _ _ (by omega) (by omega), elemz27]
  simp [Result.andThen, sliced, Addr.add]
theorem srw_last {w : World} {p : Option Addr} {m c : Nat} {st : List ByteArray} (h : SRw w (.slice p m c) st) (h0 : st ≠ []) : ∃ (L o n : Nat) (x : ByteArray), p = some ⟨L, o, none⟩ ∧ m = n + 1 ∧ n + 1 ≤ c ∧ st = st.dropLast ++ [x] ∧ st.dropLast.length = n ∧ w.cell? ⟨L, o + n, none⟩ = some (.string x) ∧ SRw w (.slice p n c) st.dropLast := by
  rcases h with ⟨h, _⟩ | ⟨_, L, o, c', h1, h2, h3⟩
  · exact absurd h h0
  · injection h1 with h1 hm hc
    subst h1
    subst hc
    have hlen : st.length = (st.length - 1) + 1 := by have := List.length_pos_iff.2 h0; omega
    refine ⟨L, o, st.length - 1, st.getLast h0, rfl, by omega, by omega, (List.dropLast_concat_getLast h0).symm, by simp, ?_, ?_⟩
    · rw [h3 (st.length - 1) (by omega), List.getLast_eq_getElem]
    · by_cases hd : st.dropLast = []
      · refine .inl ⟨hd, some ⟨L, o, none⟩, c, ?_⟩
        have : st.dropLast.length = 0 := by rw [hd]; rfl
        rw [List.length_dropLast] at this
        rw [this]
      · refine .inr ⟨hd, L, o, c, by simp, by simp; omega, fun j hj => ?_⟩
        rw [List.length_dropLast] at hj
        rw [h3 j (by omega), List.getElem_dropLast]
end Go.Proofs.YtddnmocoaahlfaaGreatDoor
namespace Go.Proofs.YtddnmocoaahlfaaGreatDoor
open Go.RowKit Go.Shelf
theorem SRw.stays {F : Nat → Prop} {w w' : World} {v : Value} {ss : List ByteArray} (h : SRw w v ss) (hs : Stays F w w') (hF : ∀ L o c n, v = .slice (some ⟨L, o, none⟩) n c → ss ≠ [] → ¬ F L) : SRw w' v ss := by
  rcases h with h | ⟨h0, L, o, c, h1, h2, h3⟩
  · exact .inl h
  · exact .inr ⟨h0, L, o, c, h1, h2, fun i hi => (World.cell?_of_block (a := ⟨L, o + i, none⟩) (hs.block L (World.block_lt_of_cell? w _ (h3 i hi)) (hF _ _ _ _ h1 h0))).trans (h3 i hi)⟩
end Go.Proofs.YtddnmocoaahlfaaGreatDoor
