/-
  The contract of awake: it returns true. Conditions: the package-level variables hold what the program lays.
-/
import Derived.Test.YtddnmocoaahlfaaGreatDoorComp
import Derived.Test.YtddnmocoaahlfaaGreatDoorLine2
set_option linter.unusedVariables false
set_option linter.unusedSimpArgs false
namespace Go.Proofs.YtddnmocoaahlfaaGreatDoor
open Go.RowKit Go.Shelf

def awakeT : List UInt8 := [102, 111, 114, 32, 105, 32, 49, 32, 51, 10, 105, 102, 32, 105, 37, 50, 61, 49, 10, 109, 111, 117, 110, 116, 32, 105, 45, 49, 10, 101, 110, 100, 10, 101, 110, 100, 10]
theorem awake_comp : compileL awakeT = .ok [⟨1, [0, 0, 0, 0, 0], []⟩, ⟨1, [2, 0, 0, 0, 0], []⟩] := by kernel_rfl
theorem awake_text : textT 2 [0, 25, 0, 0, 0] [] = ([112, 114, 105, 110, 116, 32, 48, 32, 50, 53], 0) := by kernel_rfl
theorem row_cells {w : World} {b g : Nat} {e : TypeId} {size n cap : Nat} {xs : List Value} (h : w.ownsRow b e size (.slice (some ⟨g, 0, none⟩) n cap) n xs) (i : Nat) (hi : i < xs.length) : w.cell? ⟨g, i, none⟩ = some xs[i] := by
  rcases h.2 with ⟨h1, _⟩ | ⟨g', cap', cur, hv, _, hg, _, _, _, ht⟩
  · cases h1
  · injection hv with e1 e2 e3
    injection e1 with e1
    injection e1 with e1
    subst e1
    have : w.cell? ⟨g, i, none⟩ = cur[i]? := by simp [World.cell?, hg]
    rw [this]
    have hx : xs[i]? = some xs[i] := List.getElem?_eq_getElem hi
    rw [← hx]
    have hlen := h.1
    have hin : i < n * size := by omega
    rw [← ht, List.getElem?_take, if_pos hin]
    simp
set_option maxRecDepth 100000 in
set_option maxHeartbeats 4000000 in
theorem awake_any {w : World} (he : Env w) : Calls Tryz.prog 19 #[] w (fun e w' => e = .returned (.bool true) ∧ Below w.heap.size w w') := by
  have HC := compile_any he.maxv he.errR he.acts ⟨awakeT.toArray⟩
  have e1 : compileL (txt ⟨awakeT.toArray⟩) = .ok [⟨1, [0, 0, 0, 0, 0], []⟩, ⟨1, [2, 0, 0, 0, 0], []⟩] := awake_comp
  rw [e1] at HC
  have HCC := Lib.hid HC
  have HE := Lib.hid he
  clear HC e1 he
  go_enter Tryz.func19, Tryz.ntmps19
  go_wp2_with fail
  refine HCC.out.mono ?_
  rintro ex w1 ⟨b1, _, v, rfl, kvs, hrow, hk⟩
  unfold KeepAll at hk
  obtain ⟨kv0, kvs1, rfl, _, hk⟩ := hk
  unfold KeepAll at hk
  obtain ⟨kv1, kvs2, rfl, _, hk⟩ := hk
  unfold KeepAll at hk
  subst hk
  have hv : ∃ g cap, v = .slice (some ⟨g, 0, none⟩) 2 cap := by
    rcases hrow.2 with ⟨_, h⟩ | ⟨g, cap, _, h, _⟩
    · cases h
    · exact ⟨g, cap, h⟩
  obtain ⟨g, cap, rfl⟩ := hv
  have k0 : w1.cell? ⟨g, 0, none⟩ = some (.int .i64 1) := row_cells hrow 0 (by simp [actsCells, actCells])
  have k8 : w1.cell? ⟨g, 8, none⟩ = some (.int .i64 2) := row_cells hrow 8 (by simp [actsCells, actCells])
  have HT := text_any (HE.out.below b1) (kind := 2) (a := 0) (b := 25) (c := 0) (d := 0) (e := 0) (kv := .slice none 0 0) (kp := []) (by intro n hn; simp at hn; rcases hn with rfl | rfl | rfl <;> (unfold I64; omega)) (.inl ⟨rfl, _, _, rfl⟩)
  rw [awake_text] at HT
  have HTT := Lib.hid HT
  clear HT hrow
  go_wp2_with fail
  refine HTT.out.mono ?_
  rintro ex w2 ⟨b2, s, rfl, hs⟩
  have k0' := cell_below k0 b2
  have k8' := cell_below k8 b2
  have d1 : (s.toList == [112, 114, 105, 110, 116, 32, 48, 32, 50, 53]) = true := by rw [lit_str']; exact decide_eq_true hs
  clear k0 k8 hs
  go_wp2_with fail
  go_ret
  exact ⟨rfl, b1.trans (b2.mono b1.size)⟩
end Go.Proofs.YtddnmocoaahlfaaGreatDoor
