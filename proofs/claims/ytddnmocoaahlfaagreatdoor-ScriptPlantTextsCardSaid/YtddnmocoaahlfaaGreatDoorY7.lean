/-
  The text of a plant, read by its pieces between line feeds, in plain Lean. No condition; no program in sight.
  What the reference's plantLine leaves, and its arrays of words and counts. No condition.
-/
import Derived.Test.YtddnmocoaahlfaaGreatDoorY23
import Derived.Test.YtddnmocoaahlfaaGreatDoorPlI
import Derived.Test.YtddnmocoaahlfaaGreatDoorZr
set_option linter.unusedVariables false
set_option linter.unusedSimpArgs false

namespace Go.Proofs.YtddnmocoaahlfaaGreatDoor
def goPieces : List (List UInt8) → Nat → Pl → List (List UInt8) → Pl × Nat × Int
  | [], k, p, ls => if ls = [[]] then (p, 0, 0) else (plZero, k + 1, 4)
  | w :: ws, k, p, l :: l2 :: ls =>
    match lineP k w p (cutAt 32 l) with
    | none => (plZero, k + 1, 4)
    | some q => goPieces ws (k + 1) q (l2 :: ls)
  | _ :: _, k, _, _ => (plZero, k + 1, 4)
theorem cut1_none {t : List UInt8} (h : cut1 t = none) : 10 ∉ t := by
  unfold cut1 at h
  split at h
  · cases h
  · assumption
theorem go_pieces : ∀ (ws : List (List UInt8)) (k : Nat) (p : Pl) (t : List UInt8), plantGo ws k p t = goPieces ws k p (cutAt 10 t)
  | [], k, p, t => by
    unfold plantGo goPieces
    by_cases h : t = []
    · subst h
      rw [if_pos rfl, if_pos (show cutAt 10 [] = [[]] from rfl)]
    · rw [if_neg h, if_neg]
      intro e
      obtain ⟨c, u, rfl⟩ := List.exists_cons_of_ne_nil h
      by_cases hc : c = 10
      · subst hc
        rw [cutAt_cons_eq] at e
        injection e with _ e
        exact cutAt_ne 10 u e
      · obtain ⟨q, qs, hq⟩ := List.exists_cons_of_ne_nil (cutAt_ne 10 u)
        rw [cutAt_cons_ne hc hq] at e
        cases e
  | w :: ws, k, p, t => by
    unfold plantGo
    cases hc : cut1 t with
    | none =>
      rw [cutAt_none (cut1_none hc)]
      rfl
    | some lr =>
      obtain ⟨l, r⟩ := lr
      obtain ⟨rfl, h10⟩ := cut1_some hc
      rw [cutAt_skip h10]
      obtain ⟨x, xs, hx⟩ := List.exists_cons_of_ne_nil (cutAt_ne 10 r)
      rw [hx]
      simp only [goPieces]
      cases lineP k w p (cutAt 32 l) with
      | none => rfl
      | some q =>
        simp only
        rw [go_pieces ws (k + 1) q r, hx]
theorem parsePlant_pieces (t : List UInt8) : parsePlantT t = goPieces plWords 0 plZero (cutAt 10 t) := go_pieces _ _ _ _
/-- The pieces that are left at a line. -/
theorem pieces_step {w : List UInt8} {ws : List (List UInt8)} {k : Nat} {p : Pl} {l : List UInt8} {ls : List (List UInt8)} (h : ls ≠ []) : goPieces (w :: ws) k p (l :: ls) = match lineP k w p (cutAt 32 l) with | none => (plZero, k + 1, 4) | some q => goPieces ws (k + 1) q ls := by
  obtain ⟨x, xs, rfl⟩ := List.exists_cons_of_ne_nil h
  rfl
theorem pieces_short {w : List UInt8} {ws : List (List UInt8)} {k : Nat} {p : Pl} {ls : List (List UInt8)} (h : ls.length ≤ 1) : goPieces (w :: ws) k p ls = (plZero, k + 1, 4) := by
  match ls, h with
  | [], _ => rfl
  | [_], _ => rfl
end Go.Proofs.YtddnmocoaahlfaaGreatDoor
namespace Go.Proofs.YtddnmocoaahlfaaGreatDoor
open Go.RowKit Go.Shelf
/-- What plantLine ends in: the plant, and whether the line was right. -/
def RetPL (w : World) (bv0 : Value) (ss0 : List ByteArray) (r : Option Pl) (e : Ending) (w' : World) : Prop := Below w.heap.size w w' ∧ ∃ (cs : Array Value) (b : Bool), e = .returned (.tuple #[.agg cs, .bool b]) ∧ cs.size = 19 ∧ cs.toList.all (·.oneCell') = true ∧ match r with
  | none => b = false
  | some p => b = true ∧ ∃ (q : PV) (bv : Value) (ss : List ByteArray), cs = q.cells bv ∧ SRw w' bv ss ∧ q.pl (ss.map txt) = p ∧ ((bv = bv0 ∧ ss = ss0) ∨ ∀ L o m c, bv = .slice (some ⟨L, o, none⟩) m c → ss ≠ [] → w.heap.size ≤ L)
theorem results75_any {tmps : Array Value} {w : World} {D : Nat} {cs : Array Value} {v : Value} (h : Blk w D cs 35) (hs : cs.size = 19) (h2 : tmps.getD 6 undef = .pointer (some ⟨D, 0, none⟩)) (h3 : tmps.getD 7 undef = v) :
    (results Tryz.f75 tmps).run Tryz.prog w = .ok (.tuple #[.agg cs, v]) w := by
  have hl := run_loadVar_row w D 35 35 cs (0, 0) _ h Tryz.underlying35 rfl (by rw [size35', hs])
  simp only [results, Tryz.results75, List.mapM_toArray, List.mapM_cons, List.mapM_nil, h2, h3, asAddr, pure_bind, map_eq_pure_bind, bind_assoc, Sem.run_bind, Sem.run_pure, hl, Result.andThen_ok]
  rfl
/-- What is known of the plant that is returned, where it stands. -/
def PLk (w7 : World) (b0 R : Nat) (bv0 : Value) (ss0 : List ByteArray) (cs : Array Value) (b : Bool) (r : Option Pl) : Prop := match r with
  | none => b = false
  | some p => b = true ∧ ∃ (q : PV) (bv : Value) (ss : List ByteArray), cs = q.cells bv ∧ SRw w7 bv ss ∧ q.pl (ss.map txt) = p ∧ (∀ L o m c, bv = .slice (some ⟨L, o, none⟩) m c → ss ≠ [] → L ≠ R) ∧ ((bv = bv0 ∧ ss = ss0) ∨ ∀ L o m c, bv = .slice (some ⟨L, o, none⟩) m c → ss ≠ [] → b0 ≤ L)
theorem pl_fin {w w7 : World} {R : Nat} (l7 : Below w.heap.size w w7) (hR : w.heap.size ≤ R) {cs c0 : Array Value} (BR : Blk w7 R c0 35) (hz : cs.size = 19) (h1 : cs.toList.all (·.oneCell') = true) {res : Option Pl} {b : Bool} {bv0 : Value} {ss0 : List ByteArray} (h : PLk w7 w.heap.size R bv0 ss0 cs b res) :
    RetPL w bv0 ss0 res (.returned (.tuple #[.agg cs, .bool b])) (w7.setRow R cs) := by
  refine ⟨l7.trans ((setRow_stays w7 R cs).below l7.size (fun j hj e => by have e' : j = R := e; omega)), cs, b, rfl, hz, h1, ?_⟩
  unfold PLk at h
  cases res with
  | none => exact h
  | some p =>
    obtain ⟨hb, q, bv, ss, h2, h3, h4, h5, h6⟩ := h
    exact ⟨hb, q, bv, ss, h2, srw_stays h3 (setRow_stays w7 R cs) (fun L o m c e h0 e' => h5 L o m c e h0 e'), h4, h6⟩
/-- A row of strings that lies below a world's end lies in no later block. -/
theorem srw_low {w : World} {v : Value} {ss : List ByteArray} (h : SRw w v ss) {L o m c : Nat} (e : v = .slice (some ⟨L, o, none⟩) m c) (h0 : ss ≠ []) : L < w.heap.size := by
  rcases h with ⟨h, _⟩ | ⟨_, L', o', c', h1, _, h3⟩
  · exact absurd h h0
  · rw [e] at h1
    injection h1 with h1 _ _
    injection h1 with h1
    injection h1 with h1 _
    subst h1
    exact World.block_lt_of_cell? w _ (h3 0 (List.length_pos_iff.2 h0))
end Go.Proofs.YtddnmocoaahlfaaGreatDoor
