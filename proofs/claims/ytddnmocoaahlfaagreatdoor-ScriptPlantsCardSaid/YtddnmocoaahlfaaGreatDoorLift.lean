/-
  What the rows' lists give the walks: the tables as the program lays them. No condition.
-/
import Derived.Test.YtddnmocoaahlfaaGreatDoorLift0
import Derived.Test.YtddnmocoaahlfaaGreatDoorLine
set_option linter.unusedVariables false
set_option linter.unusedSimpArgs false
namespace Go.Proofs.YtddnmocoaahlfaaGreatDoor
open Go.ChangeShapes Go.WideShapes Go.ChangeAt Go.RowKit

/-- What the rows' lists share. -/
structure Lists (L : List (String × DataW Unit)) : Prop where
  tab : ("internal/strconv.uint64pow10", Rows.laid_internal_strconv_uint64pow10) ∈ L
  errR : ("strconv.ErrRange", Rows.laid_strconv_ErrRange) ∈ L
  errS : ("strconv.ErrSyntax", Rows.laid_strconv_ErrSyntax) ∈ L
  acts : ("guilloche/script.acts", Rows.laid_guilloche_script_acts) ∈ L
theorem acts_of {w : World} {L : List (String × DataW Unit)} (h : laidMet Tryz.prog L w) (hm : ("guilloche/script.acts", Rows.laid_guilloche_script_acts) ∈ L) : Acts w := by
  obtain ⟨cs, fuel, p, _, hc, hd⟩ := laid_at h hm (g := 0) (t := 85) (by kernel_rfl) (by kernel_rfl)
  rw [actsD] at hd
  have key : ∀ j, j < 17 → ∀ i v, (formV actWords[j]!)[i]? = some v → w.cell? ⟨0, 0 + j * 3 + i, none⟩ = some v := by
    intro j hj i v hi
    rw [hc, ← Array.getElem?_toList, Nat.zero_add]
    have hl : actWords.length = 17 := rfl
    have hg : actWords[j]! = actWords[j]'(by omega) := by simp [hl, hj]
    rw [hg] at hi
    refine forms_of Tryz.underlying85 hd j ((actWords[j]'(by omega)).1, (actWords[j]'(by omega)).2, false) ?_ i v hi
    rw [List.getElem?_map, List.getElem?_eq_getElem (by omega)]
    rfl
  exact ⟨World.block_lt_of_cell? _ _ (key 0 (by decide) 0 _ rfl), key⟩
theorem evs_of {w : World} {L : List (String × DataW Unit)} (h : laidMet Tryz.prog L w) (hm : ("guilloche/script.events", Rows.laid_guilloche_script_events) ∈ L) : Evs w := by
  obtain ⟨cs, fuel, p, _, hc, hd⟩ := laid_at h hm (g := 1) (t := 92) (by kernel_rfl) (by kernel_rfl)
  rw [evsD] at hd
  have key : ∀ j, j < 25 → ∀ i v, (evV evWords[j]!)[i]? = some v → w.cell? ⟨1, 0 + j * 3 + i, none⟩ = some v := by
    intro j hj i v hi
    rw [hc, ← Array.getElem?_toList, Nat.zero_add]
    have hl : evWords.length = 25 := rfl
    have hg : evWords[j]! = evWords[j]'(by omega) := by simp [hl, hj]
    rw [hg] at hi
    exact forms_of Tryz.underlying92 hd j (evWords[j]'(by omega)) (List.getElem?_eq_getElem (by omega)) i v hi
  exact ⟨World.block_lt_of_cell? _ _ (key 0 (by decide) 0 _ rfl), key⟩
theorem env_of {w : World} {L : List (String × DataW Unit)} (hL : Lists L) (h : laidMet Tryz.prog L w) (hs : w.ShapedOpen Tryz.prog) : Env w := by
  refine ⟨acts_of h hL.acts, Tryz.laysM146.s1_3 w hs, ?_, ?_, tab_of h hL.tab⟩
  · obtain ⟨cs, fuel, p, _, hc, hd⟩ := laid_at h hL.errR (g := 6) (t := 158) (by kernel_rfl) (by kernel_rfl)
    obtain ⟨u, v, hv⟩ := err_of hd
    exact ⟨_, (hc 0).trans hv, .inr ⟨u, v, rfl⟩⟩
  · obtain ⟨cs, fuel, p, _, hc, hd⟩ := laid_at h hL.errS (g := 5) (t := 158) (by kernel_rfl) (by kernel_rfl)
    obtain ⟨u, v, hv⟩ := err_of hd
    exact ⟨_, (hc 0).trans hv, .inr ⟨u, v, rfl⟩⟩
theorem lists8 : Lists Rows.scriptSpacedRow.laid := ⟨List.mem_of_getElem? (i := 2) rfl, List.mem_of_getElem? (i := 4) rfl, List.mem_of_getElem? (i := 5) rfl, List.mem_of_getElem? (i := 6) rfl⟩
theorem lists9 : Lists Rows.scriptBackRow.laid := ⟨List.mem_of_getElem? (i := 2) rfl, List.mem_of_getElem? (i := 4) rfl, List.mem_of_getElem? (i := 5) rfl, List.mem_of_getElem? (i := 6) rfl⟩
end Go.Proofs.YtddnmocoaahlfaaGreatDoor
