/-
  The texts of plants in plain Lean. No condition; no program in sight.
-/
import Derived.Test.YtddnmocoaahlfaaGreatDoorY6
set_option linter.unusedVariables false
set_option linter.unusedSimpArgs false

namespace Go.Proofs.YtddnmocoaahlfaaGreatDoor
open Go.Lib
def pAlphabet : List UInt8 := [97, 108, 112, 104, 97, 98, 101, 116]
def pLength : List UInt8 := [108, 101, 110, 103, 116, 104]
def pBanned : List UInt8 := [98, 97, 110, 110, 101, 100]
def pCheck : List UInt8 := [99, 104, 101, 99, 107]
def pLayout : List UInt8 := [108, 97, 121, 111, 117, 116]
def pCosts : List UInt8 := [99, 111, 115, 116, 115]
def pSheets : List UInt8 := [115, 104, 101, 101, 116, 115]
def pPresses : List UInt8 := [112, 114, 101, 115, 115, 101, 115]
def pLife : List UInt8 := [108, 105, 102, 101]
def pPlates : List UInt8 := [112, 108, 97, 116, 101, 115]
def pDry : List UInt8 := [100, 114, 121]
def pVaults : List UInt8 := [118, 97, 117, 108, 116, 115]
def pBlocks : List UInt8 := [98, 108, 111, 99, 107, 115]
def plWords : List (List UInt8) := [pAlphabet, pLength, pBanned, pCheck, pLayout, pCosts, pSheets, pPresses, pLife, pPlates, pDry, pVaults, pBlocks]
structure Pl where
  alphabet : List UInt8
  length : Int
  banned : List (List UInt8)
  check : Bool
  rows : Int
  cols : Int
  ream : Int
  bundle : Int
  down : Bool
  reprint : Int
  star : Int
  open_ : Int
  sheets : Int
  presses : Int
  life : Int
  plates : Int
  dry : Int
  vaults : Int
  blocks : Int
deriving Repr, DecidableEq
def plZero : Pl := ⟨[], 0, [], false, 0, 0, 0, 0, false, 0, 0, 0, 0, 0, 0, 0, 0, 0, 0⟩
/-- The lines of a plant. -/
def plantLines (p : Pl) : List (List UInt8) := [joinB 32 pAlphabet [p.alphabet], lineT pLength [p.length], joinB 32 pBanned p.banned, lineT pCheck [bit p.check],
  lineT pLayout [p.rows, p.cols, p.ream, p.bundle, bit p.down], lineT pCosts [p.reprint, p.star, p.open_],
  lineT pSheets [p.sheets], lineT pPresses [p.presses], lineT pLife [p.life], lineT pPlates [p.plates], lineT pDry [p.dry], lineT pVaults [p.vaults], lineT pBlocks [p.blocks]]
/-- The text of a plant, and the error. -/
def plantT (p : Pl) : List UInt8 × Int := if isTokL p.alphabet && p.banned.all isTokL then ((plantLines p).flatMap (· ++ [10]), 0) else ([], 2)
def oneL (ps : List (List UInt8)) : Option Int := match undecAllL ps with | some [n] => some n | _ => none
/-- A line is read into a plant: what stands behind its word. -/
def readLine (k : Nat) (p : Pl) (ps : List (List UInt8)) : Option Pl :=
  if k = 0 then (match ps with | [a] => if isTokL a then some { p with alphabet := a } else none | _ => none)
  else if k = 1 then ((oneL ps).map fun n => { p with length := n })
  else if k = 2 then (if ps.all isTokL then some { p with banned := p.banned ++ ps } else none)
  else if k = 3 then ((oneL ps).bind fun n => if n = 0 ∨ n = 1 then some { p with check := decide (n = 1) } else none)
  else if k = 4 then ((undecAllL ps).bind fun l => match l with | [a, b, c, d, e] => if e = 0 ∨ e = 1 then some { p with rows := a, cols := b, ream := c, bundle := d, down := decide (e = 1) } else none | _ => none)
  else if k = 5 then ((undecAllL ps).bind fun l => match l with | [a, b, c] => some { p with reprint := a, star := b, open_ := c } | _ => none)
  else if k = 6 then ((oneL ps).map fun n => { p with sheets := n })
  else if k = 7 then ((oneL ps).map fun n => { p with presses := n })
  else if k = 8 then ((oneL ps).map fun n => { p with life := n })
  else if k = 9 then ((oneL ps).map fun n => { p with plates := n })
  else if k = 10 then ((oneL ps).map fun n => { p with dry := n })
  else if k = 11 then ((oneL ps).map fun n => { p with vaults := n })
  else if k = 12 then ((oneL ps).map fun n => { p with blocks := n })
  else none
/-- The text is cut behind its first line feed. -/
def cut1 (t : List UInt8) : Option (List UInt8 × List UInt8) := if 10 ∈ t then some (t.takeWhile (· != 10), (t.dropWhile (· != 10)).drop 1) else none
def lineP (k : Nat) (w : List UInt8) (p : Pl) (parts : List (List UInt8)) : Option Pl := if parts.headD [] = w then readLine k p parts.tail else none
theorem lineP_cons (k : Nat) (w : List UInt8) (p : Pl) (u : List UInt8) (ps : List (List UInt8)) : lineP k w p (u :: ps) = if u = w then readLine k p ps else none := rfl
def plantGo : List (List UInt8) → Nat → Pl → List UInt8 → Pl × Nat × Int
  | [], k, p, t => if t = [] then (p, 0, 0) else (plZero, k + 1, 4)
  | w :: ws, k, p, t =>
    match cut1 t with
    | none => (plZero, k + 1, 4)
    | some (line, rest) =>
      match lineP k w p (cutAt 32 line) with
      | none => (plZero, k + 1, 4)
      | some q => plantGo ws (k + 1) q rest
def parsePlantT (t : List UInt8) : Pl × Nat × Int := plantGo plWords 0 plZero t
theorem cut1_of {l r : List UInt8} (h : 10 ∉ l) : cut1 (l ++ 10 :: r) = some (l, r) := by
  have h1 : ∀ x ∈ l, (x != 10) = true := fun x hx => by simp; rintro rfl; exact h hx
  unfold cut1
  rw [if_pos (by simp), List.takeWhile_append_of_pos h1, List.dropWhile_append_of_pos h1]
  simp
theorem cut1_some {t l r : List UInt8} (h : cut1 t = some (l, r)) : t = l ++ 10 :: r ∧ 10 ∉ l := by
  unfold cut1 at h
  split at h
  · rename_i hm
    injection h with h
    injection h with h1 h2
    have hd : t.dropWhile (· != 10) ≠ [] := by
      intro e
      have h9 := List.takeWhile_append_dropWhile (p := (· != (10 : UInt8))) (l := t)
      rw [e, List.append_nil] at h9
      have := List.all_takeWhile (p := (· != (10 : UInt8))) (l := t)
      rw [h9, List.all_eq_true] at this
      have := this 10 hm
      simp at this
    obtain ⟨c, u, hu⟩ := List.exists_cons_of_ne_nil hd
    have hc : c = 10 := by
      have := List.head_dropWhile_not (p := (· != (10 : UInt8))) (l := t) hd
      simp only [hu, List.head_cons] at this
      simpa using this
    subst hc
    rw [hu] at h2
    simp at h2
    constructor
    · rw [← h1, ← h2, ← hu, List.takeWhile_append_dropWhile]
    · rw [← h1]
      intro hm
      have := List.all_takeWhile (p := (· != (10 : UInt8))) (l := t)
      rw [List.all_eq_true] at this
      have := this 10 hm
      simp at this
  · cases h
theorem join_clean {b c : UInt8} (hc : c ≠ b) {w : List UInt8} {ps : List (List UInt8)} (hw : c ∉ w) (hp : ∀ p ∈ ps, c ∉ p) : c ∉ joinB b w ps := by
  unfold joinB
  intro hm
  rcases List.mem_append.1 hm with hm | hm
  · exact hw hm
  · obtain ⟨p, h1, h2⟩ := List.mem_flatMap.1 hm
    rcases List.mem_cons.1 h2 with h2 | h2
    · exact hc h2
    · exact hp p h1 h2
/-- A line that is right is read. -/
theorem plant_step {w : List UInt8} {ws : List (List UInt8)} {k : Nat} {p q : Pl} {ps : List (List UInt8)} (rest : List UInt8) (h32 : 32 ∉ w) (h10 : 10 ∉ w) (hp : ∀ x ∈ ps, 32 ∉ x ∧ 10 ∉ x) (hr : readLine k p ps = some q) :
    plantGo (w :: ws) k p (joinB 32 w ps ++ 10 :: rest) = plantGo ws (k + 1) q rest := by
  conv => lhs; unfold plantGo
  rw [cut1_of (join_clean (by decide) h10 (fun x hx => (hp x hx).2))]
  simp only
  rw [cut_join h32 (fun x hx => (hp x hx).1), lineP_cons, if_pos rfl, hr]
theorem one_itoa {n : Int} (h : I64 n) : oneL [itoa n] = some n := by
  unfold oneL
  rw [show undecAllL [itoa n] = some [n] from undecAll_iff.2 ⟨by intro m hm; rw [List.mem_singleton.1 hm]; exact h, rfl⟩]
theorem itoa_clean2 (l : List Int) : ∀ x ∈ l.map itoa, 32 ∉ x ∧ 10 ∉ x := by
  intro x hx
  obtain ⟨n, _, rfl⟩ := List.mem_map.1 hx
  exact ⟨(itoa_text.clean n).1, (itoa_text.clean n).2.1⟩
theorem plw_clean : ∀ w ∈ plWords, 32 ∉ w ∧ 10 ∉ w := by decide
theorem bit_i64 (b : Bool) : I64 (bit b) := by unfold I64 bit; split <;> omega
/-- The ints of a plant. -/
def Pl.ints (p : Pl) : List Int := [p.length, p.rows, p.cols, p.ream, p.bundle, p.reprint, p.star, p.open_, p.sheets, p.presses, p.life, p.plates, p.dry, p.vaults, p.blocks]
/-- A plant is recovered from its text. -/
theorem plant_back {p : Pl} {t : List UInt8} (hi : ∀ n ∈ p.ints, I64 n) (h : plantT p = (t, 0)) : parsePlantT t = (p, 0, 0) := by
  unfold plantT at h
  split at h
  · rename_i hk
    injection h with h _
    subst h
    obtain ⟨ha, hb⟩ := Bool.and_eq_true_iff.1 hk
    have hb' : ∀ x ∈ p.banned, 32 ∉ x ∧ 10 ∉ x := fun x hx => by
      have := tok_clean (List.all_eq_true.1 hb x hx)
      exact ⟨this.1, this.2.1⟩
    obtain ⟨v_length, v_rows, v_cols, v_ream, v_bundle, v_reprint, v_star, v_open, v_sheets, v_presses, v_life, v_plates, v_dry, v_vaults, v_blocks⟩ : I64 p.length ∧ I64 p.rows ∧ I64 p.cols ∧ I64 p.ream ∧ I64 p.bundle ∧ I64 p.reprint ∧ I64 p.star ∧ I64 p.open_ ∧ I64 p.sheets ∧ I64 p.presses ∧ I64 p.life ∧ I64 p.plates ∧ I64 p.dry ∧ I64 p.vaults ∧ I64 p.blocks := by
      refine ⟨hi _ (by simp [Pl.ints]), hi _ (by simp [Pl.ints]), hi _ (by simp [Pl.ints]), hi _ (by simp [Pl.ints]), hi _ (by simp [Pl.ints]), hi _ (by simp [Pl.ints]), hi _ (by simp [Pl.ints]), hi _ (by simp [Pl.ints]), hi _ (by simp [Pl.ints]), hi _ (by simp [Pl.ints]), hi _ (by simp [Pl.ints]), hi _ (by simp [Pl.ints]), hi _ (by simp [Pl.ints]), hi _ (by simp [Pl.ints]), hi _ (by simp [Pl.ints])⟩
    obtain ⟨alphabet, length, banned, check, rows, cols, ream, bundle, down, reprint, star, open_, sheets, presses, life, plates, dry, vaults, blocks⟩ := p
    simp only at *
    unfold parsePlantT plWords plantLines
    simp only [List.flatMap_cons, List.flatMap_nil, List.append_nil, List.append_assoc, List.cons_append, List.nil_append, line_join]
    rw [plant_step (q := ⟨alphabet, 0, [], false, 0, 0, 0, 0, false, 0, 0, 0, 0, 0, 0, 0, 0, 0, 0⟩) _ (plw_clean pAlphabet (by decide)).1 (plw_clean pAlphabet (by decide)).2 (fun x hx => by rw [List.mem_singleton.1 hx]; exact ⟨(tok_clean ha).1, (tok_clean ha).2.1⟩) (by unfold readLine; simp [ha, plZero])]
    rw [plant_step (q := ⟨alphabet, length, [], false, 0, 0, 0, 0, false, 0, 0, 0, 0, 0, 0, 0, 0, 0, 0⟩) _ (plw_clean pLength (by decide)).1 (plw_clean pLength (by decide)).2 (itoa_clean2 _) (by unfold readLine; simp [one_itoa v_length])]
    rw [plant_step (q := ⟨alphabet, length, banned, false, 0, 0, 0, 0, false, 0, 0, 0, 0, 0, 0, 0, 0, 0, 0⟩) _ (plw_clean pBanned (by decide)).1 (plw_clean pBanned (by decide)).2 hb' (by unfold readLine; rw [if_neg (by decide), if_neg (by decide), if_pos rfl, if_pos hb]; rfl)]
    rw [plant_step (q := ⟨alphabet, length, banned, check, 0, 0, 0, 0, false, 0, 0, 0, 0, 0, 0, 0, 0, 0, 0⟩) _ (plw_clean pCheck (by decide)).1 (plw_clean pCheck (by decide)).2 (itoa_clean2 _) (by unfold readLine; simp [one_itoa (bit_i64 check)]; cases check <;> simp [bit])]
    rw [plant_step (q := ⟨alphabet, length, banned, check, rows, cols, ream, bundle, down, 0, 0, 0, 0, 0, 0, 0, 0, 0, 0⟩) _ (plw_clean pLayout (by decide)).1 (plw_clean pLayout (by decide)).2 (itoa_clean2 _) (by unfold readLine; rw [show undecAllL _ = some [rows, cols, ream, bundle, bit down] from undecAll_iff.2 ⟨by simp [v_rows, v_cols, v_ream, v_bundle, bit_i64], rfl⟩]; cases down <;> simp [bit])]
    rw [plant_step (q := ⟨alphabet, length, banned, check, rows, cols, ream, bundle, down, reprint, star, open_, 0, 0, 0, 0, 0, 0, 0⟩) _ (plw_clean pCosts (by decide)).1 (plw_clean pCosts (by decide)).2 (itoa_clean2 _) (by unfold readLine; rw [show undecAllL _ = some [reprint, star, open_] from undecAll_iff.2 ⟨by simp [v_reprint, v_star, v_open], rfl⟩]; simp)]
    rw [plant_step (q := ⟨alphabet, length, banned, check, rows, cols, ream, bundle, down, reprint, star, open_, sheets, 0, 0, 0, 0, 0, 0⟩) _ (plw_clean pSheets (by decide)).1 (plw_clean pSheets (by decide)).2 (itoa_clean2 _) (by unfold readLine; simp [one_itoa v_sheets])]
    rw [plant_step (q := ⟨alphabet, length, banned, check, rows, cols, ream, bundle, down, reprint, star, open_, sheets, presses, 0, 0, 0, 0, 0⟩) _ (plw_clean pPresses (by decide)).1 (plw_clean pPresses (by decide)).2 (itoa_clean2 _) (by unfold readLine; simp [one_itoa v_presses])]
    rw [plant_step (q := ⟨alphabet, length, banned, check, rows, cols, ream, bundle, down, reprint, star, open_, sheets, presses, life, 0, 0, 0, 0⟩) _ (plw_clean pLife (by decide)).1 (plw_clean pLife (by decide)).2 (itoa_clean2 _) (by unfold readLine; simp [one_itoa v_life])]
    rw [plant_step (q := ⟨alphabet, length, banned, check, rows, cols, ream, bundle, down, reprint, star, open_, sheets, presses, life, plates, 0, 0, 0⟩) _ (plw_clean pPlates (by decide)).1 (plw_clean pPlates (by decide)).2 (itoa_clean2 _) (by unfold readLine; simp [one_itoa v_plates])]
    rw [plant_step (q := ⟨alphabet, length, banned, check, rows, cols, ream, bundle, down, reprint, star, open_, sheets, presses, life, plates, dry, 0, 0⟩) _ (plw_clean pDry (by decide)).1 (plw_clean pDry (by decide)).2 (itoa_clean2 _) (by unfold readLine; simp [one_itoa v_dry])]
    rw [plant_step (q := ⟨alphabet, length, banned, check, rows, cols, ream, bundle, down, reprint, star, open_, sheets, presses, life, plates, dry, vaults, 0⟩) _ (plw_clean pVaults (by decide)).1 (plw_clean pVaults (by decide)).2 (itoa_clean2 _) (by unfold readLine; simp [one_itoa v_vaults])]
    rw [plant_step (q := ⟨alphabet, length, banned, check, rows, cols, ream, bundle, down, reprint, star, open_, sheets, presses, life, plates, dry, vaults, blocks⟩) _ (plw_clean pBlocks (by decide)).1 (plw_clean pBlocks (by decide)).2 (itoa_clean2 _) (by unfold readLine; simp [one_itoa v_blocks])]
    rfl
  · cases h
end Go.Proofs.YtddnmocoaahlfaaGreatDoor
