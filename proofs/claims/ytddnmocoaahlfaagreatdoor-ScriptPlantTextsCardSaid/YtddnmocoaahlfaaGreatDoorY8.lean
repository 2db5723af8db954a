/-
  The contract of awake: it returns true. Conditions: the package-level variables hold what the program lays.
  The contracts of fields, Same and SameActs, at acts that are the same. No condition.
  The law ScriptSpaced, walked. Conditions: the package-level variables hold what the program lays.
-/
import Derived.Test.YtddnmocoaahlfaaGreatDoorComp
import Derived.Test.YtddnmocoaahlfaaGreatDoorLine2
import Derived.Deep.RegionHeld3
import Derived.BigQuiet
import Derived.StillTailTactics
set_option linter.unusedVariables false
set_option linter.unusedSimpArgs false

namespace Go.Proofs.YtddnmocoaahlfaaGreatDoor
open Go.RowKit Go.Shelf
def awakeT : List UInt8 := [102, 111, 114, 32, 105, 32, 49, 32, 51, 10, 105, 102, 32, 105, 37, 50, 61, 49, 10, 109, 111, 117, 110, 116, 32, 105, 45, 49, 10, 101, 110, 100, 10, 101, 110, 100, 10]
theorem awake_comp : compileL awakeT = .ok [⟨1, [0, 0, 0, 0, 0], []⟩, ⟨1, [2, 0, 0, 0, 0], []⟩] := by kernel_rfl
theorem awake_text : textT 2 [0, 25, 0, 0, 0] [] = ([112, 114, 105, 110, 116, 32, 48, 32, 50, 53], 0) := by kernel_rfl
theorem row_cells {w : World} {b g : Nat} {e : TypeId} {size n cap : Nat} {xs : List Value} (h : w.ownsRow b e size (.slice (some ⟨g, 0, none⟩) n cap) n xs) (i : Nat) (hi : i < xs.length) : w.cell? ⟨g, i, none⟩ = some xs[i] := by
  rcases h.2 with ⟨h1, _⟩ | ⟨g', cap', cur, hv, _, hg, _, _, _, ht⟩
  · cases h1
  · injection hv with e1 e2 e3
    injection e1 with e1
    injection e1 with e1
    subst e1
    have : w.cell? ⟨g, i, none⟩ = cur[i]? := by simp [World.cell?, hg]
    rw [this]
    have hx : xs[i]? = some xs[i] := List.getElem?_eq_getElem hi
    rw [← hx]
    have hlen := h.1
    have hin : i < n * size := by omega
    rw [← ht, List.getElem?_take, if_pos hin]
    simp
set_option maxRecDepth 100000 in
set_option maxHeartbeats 4000000 in
theorem awake_any {w : World} (he : Env w) : Calls Tryz.prog 19 #[] w (fun e w' => e = .returned (.bool true) ∧ Below w.heap.size w w') := by
  have HC := compile_any he.maxv he.errR he.acts ⟨awakeT.toArray⟩
  have e1 : compileL (txt ⟨awakeT.toArray⟩) = .ok [⟨1, [0, 0, 0, 0, 0], []⟩, ⟨1, [2, 0, 0, 0, 0], []⟩] := awake_comp
  rw [e1] at HC
  have HCC := Lib.hid HC
  have HE := Lib.hid he
  clear HC e1 he
  go_enter Tryz.func19, Tryz.ntmps19
  go_wp2_with fail
  refine HCC.out.mono ?_
  rintro ex w1 ⟨b1, _, v, rfl, kvs, hrow, hk⟩
  unfold KeepAll at hk
  obtain ⟨kv0, kvs1, rfl, _, hk⟩ := hk
  unfold KeepAll at hk
  obtain ⟨kv1, kvs2, rfl, _, hk⟩ := hk
  unfold KeepAll at hk
  subst hk
  have hv : ∃ g cap, v = .slice (some ⟨g, 0, none⟩) 2 cap := by
    rcases hrow.2 with ⟨_, h⟩ | ⟨g, cap, _, h, _⟩
    · cases h
    · exact ⟨g, cap, h⟩
  obtain ⟨g, cap, rfl⟩ := hv
  have k0 : w1.cell? ⟨g, 0, none⟩ = some (.int .i64 1) := row_cells hrow 0 (by simp [actsCells, actCells])
  have k8 : w1.cell? ⟨g, 8, none⟩ = some (.int .i64 2) := row_cells hrow 8 (by simp [actsCells, actCells])
  have HT := text_any (HE.out.below b1) (kind := 2) (a := 0) (b := 25) (c := 0) (d := 0) (e := 0) (kv := .slice none 0 0) (kp := []) (by intro n hn; simp at hn; rcases hn with rfl | rfl | rfl <;> (unfold I64; omega)) (.inl ⟨rfl, _, _, rfl⟩)
  rw [awake_text] at HT
  have HTT := Lib.hid HT
  clear HT hrow
  go_wp2_with fail
  refine HTT.out.mono ?_
  rintro ex w2 ⟨b2, s, rfl, hs⟩
  have k0' := cell_below k0 b2
  have k8' := cell_below k8 b2
  have d1 : (s.toList == [112, 114, 105, 110, 116, 32, 48, 32, 50, 53]) = true := by rw [lit_str']; exact decide_eq_true hs
  clear k0 k8 hs
  go_wp2_with fail
  go_ret
  exact ⟨rfl, b1.trans (b2.mono b1.size)⟩
end Go.Proofs.YtddnmocoaahlfaaGreatDoor
namespace Go.Proofs.YtddnmocoaahlfaaGreatDoor
open Go.RowKit Go.Shelf
theorem nrow_get {w : World} {p : Option Addr} {n c : Nat} {l : List Int} (h : NRow w (.slice p n c) l) {i : Nat} (hi : i < l.length) : ∃ L o, p = some ⟨L, o, none⟩ ∧ w.cell? ⟨L, o + i, none⟩ = some (.int .i64 l[i]) := by
  rcases h with ⟨rfl, _⟩ | ⟨_, L, o, c', h1, _, h3⟩
  · simp at hi
  · injection h1 with h1 _ _
    exact ⟨L, o, h1, h3 i hi⟩
theorem nrow_cap {w : World} {p : Option Addr} {n c : Nat} {l : List Int} (h : NRow w (.slice p n c) l) : l = [] ∨ l.length ≤ c := by
  rcases h with ⟨rfl, _⟩ | ⟨_, L, o, c', h1, h2, h3⟩
  · exact .inl rfl
  · injection h1 with _ _ h1
    subst h1
    exact .inr h2
theorem nrow_of {w : World} {b : Nat} {v : Value} {l : List Int} (h : IRow w b v l) : NRow w v l := by
  by_cases h0 : l = []
  · subst h0
    rcases irow_form h with ⟨rfl, _⟩ | ⟨L, cap, rfl, _⟩
    · exact .inl ⟨rfl, _, _, rfl⟩
    · exact .inl ⟨rfl, _, _, rfl⟩
  · have hp := List.length_pos_iff.2 h0
    rcases h.2 with ⟨_, h1⟩ | ⟨g, cap, cur, rfl, _, hg, hnc, _⟩
    · omega
    · refine .inr ⟨h0, g, 0, cap, rfl, hnc, fun j hj => ?_⟩
      have := row_get h hp j (by simpa using hj)
      rw [Nat.zero_add, this]
      simp
theorem irow_max {w : World} {b : Nat} {v : Value} {l : List Int} (h : IRow w b v l) : l.length ≤ maxLen := by
  rcases h.2 with ⟨_, h1⟩ | ⟨g, cap, cur, _, _, _, h1, h2, _⟩
  · rw [h1]; exact Nat.zero_le _
  · exact Nat.le_trans h1 h2
theorem actsCells_get {w : World} {b : Nat} : ∀ {ac : List Act5} {kvs : List Value}, KeepAll w b ac kvs → ∀ i (hi : i < ac.length), ∃ kv k a0 a1 a2 a3 a4 kp, ac[i] = ⟨k, [a0, a1, a2, a3, a4], kp⟩ ∧ NRow w kv kp ∧ kp.length ≤ maxLen ∧ (∃ p n c, kv = .slice p n c) ∧
    ∀ j u, ([.int .i64 k, .int .i64 a0, .int .i64 a1, .int .i64 a2, .int .i64 a3, .int .i64 a4, kv] : List Value)[j]? = some u → (actsCells ac kvs)[i * 7 + j]? = some u
  | [], kvs, h, i, hi => by simp at hi
  | a :: ac, kvs, h, i, hi => by
    unfold KeepAll at h
    obtain ⟨kv, kvs', rfl, ⟨h1, h5⟩, h2⟩ := h
    obtain ⟨k, f, kp⟩ := a
    obtain ⟨a0, a1, a2, a3, a4, hf⟩ := five h5
    simp only at hf h1
    subst hf
    cases i with
    | zero =>
      refine ⟨kv, k, a0, a1, a2, a3, a4, kp, rfl, nrow_of h1, irow_max h1, irow_slice h1, fun j u hj => ?_⟩
      have hj7 : j < 7 := by have := (List.getElem?_eq_some_iff.1 hj).1; simpa using this
      show (actCells ⟨k, [a0, a1, a2, a3, a4], kp⟩ kv ++ actsCells ac kvs')[0 * 7 + j]? = some u
      rw [Nat.zero_mul, Nat.zero_add, List.getElem?_append_left (by simp [actCells]; omega)]
      exact hj
    | succ i =>
      obtain ⟨kv2, k2, b0, b1, b2, b3, b4, kp2, e1, e2, e0, e3, e4⟩ := actsCells_get h2 i (by simpa using hi)
      refine ⟨kv2, k2, b0, b1, b2, b3, b4, kp2, by simpa using e1, e2, e0, e3, fun j u hj => ?_⟩
      show (actCells ⟨k, [a0, a1, a2, a3, a4], kp⟩ kv ++ actsCells ac kvs')[(i + 1) * 7 + j]? = some u
      rw [List.getElem?_append_right (by simp [actCells]; omega)]
      have : (i + 1) * 7 + j - (actCells ⟨k, [a0, a1, a2, a3, a4], kp⟩ kv).length = i * 7 + j := by simp [actCells]; omega
      rw [this]
      exact e4 j u hj
/-- The cells of an act in a row of acts. -/
theorem ActsAt.get {w : World} {b : Nat} {v : Value} {ac : List Act5} (h : ActsAt w b v ac) : ∃ p c, v = .slice p ac.length c ∧ (ac.length ≤ c ∨ ac = []) ∧ ∀ i (hi : i < ac.length), ∃ g kv k a0 a1 a2 a3 a4 kp, p = some ⟨g, 0, none⟩ ∧ ac[i] = ⟨k, [a0, a1, a2, a3, a4], kp⟩ ∧ NRow w kv kp ∧ kp.length ≤ maxLen ∧ (∃ p n c, kv = .slice p n c) ∧
    w.cell? ⟨g, i * 7, none⟩ = some (.int .i64 k) ∧ w.cell? ⟨g, i * 7 + 1, none⟩ = some (.int .i64 a0) ∧ w.cell? ⟨g, i * 7 + 2, none⟩ = some (.int .i64 a1) ∧ w.cell? ⟨g, i * 7 + 3, none⟩ = some (.int .i64 a2) ∧ w.cell? ⟨g, i * 7 + 4, none⟩ = some (.int .i64 a3) ∧ w.cell? ⟨g, i * 7 + 5, none⟩ = some (.int .i64 a4) ∧ w.cell? ⟨g, i * 7 + 6, none⟩ = some kv := by
  obtain ⟨kvs, h1, h2⟩ := h
  rcases h1.2 with ⟨rfl, h0⟩ | ⟨g, cap, cur, rfl, _, hg, hnc, _⟩
  · exact ⟨none, 0, by rw [h0], .inr (List.length_eq_zero_iff.1 h0), fun i hi => by omega⟩
  · refine ⟨_, cap, rfl, .inl hnc, fun i hi => ?_⟩
    obtain ⟨kv, k, a0, a1, a2, a3, a4, kp, e1, e2, e0, e3, e4⟩ := actsCells_get h2 i hi
    have hc : ∀ j u, ([.int .i64 k, .int .i64 a0, .int .i64 a1, .int .i64 a2, .int .i64 a3, .int .i64 a4, kv] : List Value)[j]? = some u → w.cell? ⟨g, i * 7 + j, none⟩ = some u := fun j u hj => by
      obtain ⟨q1, q2⟩ := List.getElem?_eq_some_iff.1 (e4 j u hj)
      rw [row_cells h1 _ q1, q2]
    exact ⟨g, kv, k, a0, a1, a2, a3, a4, kp, rfl, e1, e2, e0, e3, hc 0 _ rfl, hc 1 _ rfl, hc 2 _ rfl, hc 3 _ rfl, hc 4 _ rfl, hc 5 _ rfl, hc 6 _ rfl⟩
end Go.Proofs.YtddnmocoaahlfaaGreatDoor
namespace Go.Proofs.YtddnmocoaahlfaaGreatDoor
open Go.RowKit Go.Shelf
theorem ActsAt.below {w w' : World} {b : Nat} {v : Value} {ac : List Act5} (h : ActsAt w b v ac) (hb : Below w.heap.size w w') : ActsAt w' b v ac := h.typed (RowsKept.below hb)
theorem ActsAt.form {w : World} {b : Nat} {v : Value} {ac : List Act5} (h : ActsAt w b v ac) : ∃ p c, v = .slice p ac.length c := let ⟨p, c, h1, _⟩ := h.get; ⟨p, c, h1⟩
/-- What a law ends in. -/
abbrev RetT (w : World) (e : Ending) (w' : World) : Prop := e = .returned (.bool true) ∧ Below w.heap.size w w'
end Go.Proofs.YtddnmocoaahlfaaGreatDoor
