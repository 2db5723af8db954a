/-
  The texts of numbers, acts and events in plain Lean. No condition; no program in sight.
  The texts of plants in plain Lean. No condition; no program in sight.
  The law's own check of a number, and the reference's number texts: Number writes the decimal text. No condition but that the number is an int.
-/
import Derived.Test.YtddnmocoaahlfaaGreatDoorPlain
import Derived.Lib.AtoiAllCases
import Derived.Test.YtddnmocoaahlfaaGreatDoorBase
import Derived.Lib.ItoaLen
set_option linter.unusedVariables false
set_option linter.unusedSimpArgs false

namespace Go.Proofs.YtddnmocoaahlfaaGreatDoor
open Go.Lib
def I64 (n : Int) : Prop := -9223372036854775808 ≤ n ∧ n ≤ 9223372036854775807
def valFrom (acc : Nat) (l : List UInt8) : Nat := l.foldl (fun n c => 10 * n + (c.toNat - 48)) acc
theorem dig_range {c : UInt8} (h : isDig c = true) : 48 ≤ c.toNat ∧ c.toNat ≤ 57 := by
  unfold isDig at h
  simp only [Bool.and_eq_true, decide_eq_true_eq, UInt8.le_iff_toNat_le] at h
  exact h
theorem valFrom_le : ∀ (l : List UInt8) (acc : Nat), acc ≤ valFrom acc l
  | [], acc => Nat.le_refl _
  | c :: l, acc => by
    have := valFrom_le l (10 * acc + (c.toNat - 48))
    unfold valFrom at *
    rw [List.foldl_cons]
    omega
theorem parse_val : ∀ (l : List UInt8) (acc : Nat), (∀ c ∈ l, isDig c = true) → valFrom acc l < 18446744073709551616 → parseUint10 acc l = .ok (valFrom acc l)
  | [], acc, _, _ => rfl
  | c :: l, acc, hd, hv => by
    have h1 := dig_range (hd c (by simp))
    have e : valFrom acc (c :: l) = valFrom (10 * acc + (c.toNat - 48)) l := rfl
    rw [e] at hv ⊢
    have h2 := valFrom_le l (10 * acc + (c.toNat - 48))
    unfold parseUint10
    rw [if_pos h1, if_neg (by omega), if_neg (by omega), Nat.mul_comm acc 10]
    exact parse_val l _ (fun d hm => hd d (by simp [hm])) hv
theorem mag_dec {u : Nat} (h : u < 18446744073709551616) : parseMag (decDigits u) = .ok u := by
  obtain ⟨h1, h2, c, t, h3, _⟩ := decDigits_facts u
  unfold parseMag
  rw [if_neg (by rw [h3]; simp)]
  have e : valFrom 0 (decDigits u) = u := h2
  rw [parse_val _ _ h1 (by rw [e]; exact h), e]
theorem atoi_itoa {n : Int} (h : I64 n) : atoiAll (itoa n) = .ok n := by
  unfold I64 at h
  unfold itoa
  by_cases hn : n < 0
  · rw [if_pos hn, atoiAll_minus, mag_dec (by omega)]
    simp only [signed]
    rw [if_neg (by omega)]
    congr 1
    omega
  · rw [if_neg hn]
    obtain ⟨h1, h2, c, t, h3, _⟩ := decDigits_facts n.toNat
    have hm := mag_dec (u := n.toNat) (by omega)
    rw [h3] at hm h1 ⊢
    have hc := dig_range (h1 c (by simp))
    rw [atoiAll_plain c t (by omega) (by omega), hm]
    simp only [signless]
    rw [if_neg (by omega)]
    congr 1
    omega
/-- The number of a number text. -/
def undecL (s : List UInt8) : Option Int := match atoiAll s with | .ok v => if itoa v = s then some v else none | _ => none
theorem undec_iff {s : List UInt8} {v : Int} : undecL s = some v ↔ I64 v ∧ itoa v = s := by
  constructor
  · intro h
    unfold undecL at h
    cases ha : atoiAll s with
    | ok u =>
      rw [ha] at h
      simp only at h
      split at h
      · injection h with h
        subst h
        exact ⟨atoiAll_bounds ha, by assumption⟩
      · cases h
    | range => rw [ha] at h; cases h
    | _ => rw [ha] at h; cases h
  · rintro ⟨h, rfl⟩
    unfold undecL
    rw [atoi_itoa h]
    simp
def undecAllL : List (List UInt8) → Option (List Int)
  | [] => some []
  | s :: ss => match undecL s with
    | none => none
    | some n => match undecAllL ss with
      | none => none
      | some l => some (n :: l)
theorem undecAll_iff : ∀ {ss : List (List UInt8)} {l : List Int}, undecAllL ss = some l ↔ (∀ n ∈ l, I64 n) ∧ l.map itoa = ss
  | [], l => by
    unfold undecAllL
    constructor
    · intro h; injection h with h; subst h; exact ⟨(fun n hn => by cases hn), rfl⟩
    · intro h; rw [List.map_eq_nil_iff.1 h.2]
  | s :: ss, l => by
    unfold undecAllL
    constructor
    · intro h
      cases hs : undecL s with
      | none => rw [hs] at h; cases h
      | some n =>
        rw [hs] at h
        cases hr : undecAllL ss with
        | none => rw [hr] at h; cases h
        | some r =>
          rw [hr] at h
          injection h with h
          subst h
          obtain ⟨h1, h2⟩ := undec_iff.1 hs
          obtain ⟨h3, h4⟩ := undecAll_iff.1 hr
          refine ⟨fun m hm => ?_, by rw [List.map_cons, h2, h4]⟩
          rcases List.mem_cons.1 hm with rfl | hm
          · exact h1
          · exact h3 m hm
    · rintro ⟨h1, h2⟩
      cases l with
      | nil => cases h2
      | cons n r =>
        rw [List.map_cons] at h2
        injection h2 with e1 e2
        rw [undec_iff.2 ⟨h1 n (by simp), e1⟩, undecAll_iff.2 ⟨fun m hm => h1 m (by simp [hm]), e2⟩]
/-! Pieces between single bytes, joined again. -/
def joinB (b : UInt8) (w : List UInt8) (ps : List (List UInt8)) : List UInt8 := w ++ ps.flatMap (b :: ·)
theorem join_cut (b : UInt8) : ∀ s : List UInt8, ∃ w ps, cutAt b s = w :: ps ∧ s = joinB b w ps
  | [] => ⟨[], [], rfl, rfl⟩
  | c :: s => by
    obtain ⟨w, ps, h1, h2⟩ := join_cut b s
    by_cases hc : c = b
    · subst hc
      exact ⟨[], w :: ps, by rw [cutAt_cons_eq, h1], by rw [h2]; simp [joinB]⟩
    · exact ⟨c :: w, ps, cutAt_cons_ne hc h1, by rw [h2]; simp [joinB]⟩
theorem line_join (w : List UInt8) (l : List Int) : lineT w l = joinB 32 w (l.map itoa) := by unfold lineT joinB; rw [List.flatMap_map]
/-! The line of an act, read again. -/
/-! Events. -/
/-- The words of events with their numbers, and whether a token follows. -/
def evWords : List (List UInt8 × Nat × Bool) := [
  ([109, 111, 117, 110, 116, 101, 100], 2, false), ([112, 114, 105, 110, 116, 101, 100], 3, false), ([100, 114, 105, 101, 100], 2, false), ([115, 112, 111, 105, 108, 101, 100], 1, false),
  ([114, 101, 112, 114, 105, 110, 116, 101, 100], 1, false), ([114, 101, 112, 108, 97, 99, 101, 100], 2, false), ([111, 112, 101, 110, 101, 100], 1, false), ([114, 101, 112, 97, 105, 114, 101, 100], 2, false),
  ([105, 110, 115, 112, 101, 99, 116, 101, 100], 3, false), ([99, 117, 116], 3, false), ([98, 101, 103, 117, 110], 1, false), ([114, 117, 110], 3, false),
  ([108, 111, 111, 107, 101, 100], 3, false), ([109, 111, 118, 101, 100], 3, false), ([114, 101, 102, 117, 115, 101, 100], 1, false), ([119, 97, 105, 116, 115], 1, false),
  ([103, 114, 97, 110, 116, 101, 100], 1, false), ([99, 111, 109, 109, 105, 116, 116, 101, 100], 2, false), ([97, 98, 111, 114, 116, 101, 100], 1, false), ([100, 101, 115, 116, 114, 111, 121, 101, 100], 2, false),
  ([100, 114, 97, 119, 110], 1, true), ([97, 117, 100, 105, 116, 101, 100], 2, true), ([115, 97, 118, 101, 100], 1, false), ([99, 104, 101, 99, 107, 101, 100], 1, false),
  ([114, 101, 99, 111, 118, 101, 114, 101, 100], 1, false)]
/-- A token. -/
def isTokL (s : List UInt8) : Bool := s.all (fun c => 33 ≤ c && c ≤ 126) && decide (1 ≤ s.length) && decide (s.length ≤ 64)
structure Ev3 where
  kind : Nat
  f : List Int
  text : List UInt8
deriving Repr, DecidableEq
end Go.Proofs.YtddnmocoaahlfaaGreatDoor
namespace Go.Proofs.YtddnmocoaahlfaaGreatDoor
open Go.Lib
def pAlphabet : List UInt8 := [97, 108, 112, 104, 97, 98, 101, 116]
def pLength : List UInt8 := [108, 101, 110, 103, 116, 104]
def pBanned : List UInt8 := [98, 97, 110, 110, 101, 100]
def pCheck : List UInt8 := [99, 104, 101, 99, 107]
def pLayout : List UInt8 := [108, 97, 121, 111, 117, 116]
def pCosts : List UInt8 := [99, 111, 115, 116, 115]
def pSheets : List UInt8 := [115, 104, 101, 101, 116, 115]
def pPresses : List UInt8 := [112, 114, 101, 115, 115, 101, 115]
def pLife : List UInt8 := [108, 105, 102, 101]
def pPlates : List UInt8 := [112, 108, 97, 116, 101, 115]
def pDry : List UInt8 := [100, 114, 121]
def pVaults : List UInt8 := [118, 97, 117, 108, 116, 115]
def pBlocks : List UInt8 := [98, 108, 111, 99, 107, 115]
def plWords : List (List UInt8) := [pAlphabet, pLength, pBanned, pCheck, pLayout, pCosts, pSheets, pPresses, pLife, pPlates, pDry, pVaults, pBlocks]
structure Pl where
  alphabet : List UInt8
  length : Int
  banned : List (List UInt8)
  check : Bool
  rows : Int
  cols : Int
  ream : Int
  bundle : Int
  down : Bool
  reprint : Int
  star : Int
  open_ : Int
  sheets : Int
  presses : Int
  life : Int
  plates : Int
  dry : Int
  vaults : Int
  blocks : Int
deriving Repr, DecidableEq
def plZero : Pl := ⟨[], 0, [], false, 0, 0, 0, 0, false, 0, 0, 0, 0, 0, 0, 0, 0, 0, 0⟩
/-- The lines of a plant. -/
def plantLines (p : Pl) : List (List UInt8) := [joinB 32 pAlphabet [p.alphabet], lineT pLength [p.length], joinB 32 pBanned p.banned, lineT pCheck [bit p.check],
  lineT pLayout [p.rows, p.cols, p.ream, p.bundle, bit p.down], lineT pCosts [p.reprint, p.star, p.open_],
  lineT pSheets [p.sheets], lineT pPresses [p.presses], lineT pLife [p.life], lineT pPlates [p.plates], lineT pDry [p.dry], lineT pVaults [p.vaults], lineT pBlocks [p.blocks]]
/-- The text of a plant, and the error. -/
def plantT (p : Pl) : List UInt8 × Int := if isTokL p.alphabet && p.banned.all isTokL then ((plantLines p).flatMap (· ++ [10]), 0) else ([], 2)
def oneL (ps : List (List UInt8)) : Option Int := match undecAllL ps with | some [n] => some n | _ => none
/-- A line is read into a plant: what stands behind its word. -/
def readLine (k : Nat) (p : Pl) (ps : List (List UInt8)) : Option Pl :=
  if k = 0 then (match ps with | [a] => if isTokL a then some { p with alphabet := a } else none | _ => none)
  else if k = 1 then ((oneL ps).map fun n => { p with length := n })
  else if k = 2 then (if ps.all isTokL then some { p with banned := p.banned ++ ps } else none)
  else if k = 3 then ((oneL ps).bind fun n => if n = 0 ∨ n = 1 then some { p with check := decide (n = 1) } else none)
  else if k = 4 then ((undecAllL ps).bind fun l => match l with | [a, b, c, d, e] => if e = 0 ∨ e = 1 then some { p with rows := a, cols := b, ream := c, bundle := d, down := decide (e = 1) } else none | _ => none)
  else if k = 5 then ((undecAllL ps).bind fun l => match l with | [a, b, c] => some { p with reprint := a, star := b, open_ := c } | _ => none)
  else if k = 6 then ((oneL ps).map fun n => { p with sheets := n })
  else if k = 7 then ((oneL ps).map fun n => { p with presses := n })
  else if k = 8 then ((oneL ps).map fun n => { p with life := n })
  else if k = 9 then ((oneL ps).map fun n => { p with plates := n })
  else if k = 10 then ((oneL ps).map fun n => { p with dry := n })
  else if k = 11 then ((oneL ps).map fun n => { p with vaults := n })
  else if k = 12 then ((oneL ps).map fun n => { p with blocks := n })
  else none
/-- The text is cut behind its first line feed. -/
def cut1 (t : List UInt8) : Option (List UInt8 × List UInt8) := if 10 ∈ t then some (t.takeWhile (· != 10), (t.dropWhile (· != 10)).drop 1) else none
def lineP (k : Nat) (w : List UInt8) (p : Pl) (parts : List (List UInt8)) : Option Pl := if parts.headD [] = w then readLine k p parts.tail else none
theorem lineP_cons (k : Nat) (w : List UInt8) (p : Pl) (u : List UInt8) (ps : List (List UInt8)) : lineP k w p (u :: ps) = if u = w then readLine k p ps else none := rfl
def plantGo : List (List UInt8) → Nat → Pl → List UInt8 → Pl × Nat × Int
  | [], k, p, t => if t = [] then (p, 0, 0) else (plZero, k + 1, 4)
  | w :: ws, k, p, t =>
    match cut1 t with
    | none => (plZero, k + 1, 4)
    | some (line, rest) =>
      match lineP k w p (cutAt 32 line) with
      | none => (plZero, k + 1, 4)
      | some q => plantGo ws (k + 1) q rest
def parsePlantT (t : List UInt8) : Pl × Nat × Int := plantGo plWords 0 plZero t
theorem cut1_some {t l r : List UInt8} (h : cut1 t = some (l, r)) : t = l ++ 10 :: r ∧ 10 ∉ l := by
  unfold cut1 at h
  split at h
  · rename_i hm
    injection h with h
    injection h with h1 h2
    have hd : t.dropWhile (· != 10) ≠ [] := by
      intro e
      have h9 := List.takeWhile_append_dropWhile (p := (· != (10 : UInt8))) (l := t)
      rw [e, List.append_nil] at h9
      have := List.all_takeWhile (p := (· != (10 : UInt8))) (l := t)
      rw [h9, List.all_eq_true] at this
      have := this 10 hm
      simp at this
    obtain ⟨c, u, hu⟩ := List.exists_cons_of_ne_nil hd
    have hc : c = 10 := by
      have := List.head_dropWhile_not (p := (· != (10 : UInt8))) (l := t) hd
      simp only [hu, List.head_cons] at this
      simpa using this
    subst hc
    rw [hu] at h2
    simp at h2
    constructor
    · rw [← h1, ← h2, ← hu, List.takeWhile_append_dropWhile]
    · rw [← h1]
      intro hm
      have := List.all_takeWhile (p := (· != (10 : UInt8))) (l := t)
      rw [List.all_eq_true] at this
      have := this 10 hm
      simp at this
  · cases h
theorem plant_read {w : List UInt8} {ws : List (List UInt8)} {k m : Nat} {p q : Pl} {t : List UInt8} (h : plantGo (w :: ws) k p t = (q, m, 0)) :
    ∃ ps p' rest, t = joinB 32 w ps ++ 10 :: rest ∧ readLine k p ps = some p' ∧ plantGo ws (k + 1) p' rest = (q, m, 0) := by
  unfold plantGo at h
  cases hc : cut1 t with
  | none => rw [hc] at h; cases h
  | some x =>
    obtain ⟨line, rest⟩ := x
    rw [hc] at h
    simp only at h
    obtain ⟨e, _⟩ := cut1_some hc
    obtain ⟨u, ps, h1, h2⟩ := join_cut 32 line
    rw [h1, lineP_cons] at h
    by_cases hu : u = w
    · subst hu
      rw [if_pos rfl] at h
      cases hr : readLine k p ps with
      | none => rw [hr] at h; cases h
      | some p' =>
        rw [hr] at h
        exact ⟨ps, p', rest, by rw [e, h2], hr, h⟩
    · rw [if_neg hu] at h
      cases h
theorem one_some {ps : List (List UInt8)} {n : Int} (h : oneL ps = some n) : ps = [itoa n] ∧ I64 n := by
  unfold oneL at h
  split at h
  · rename_i hu
    injection h with h
    subst h
    obtain ⟨h1, h2⟩ := undecAll_iff.1 hu
    exact ⟨h2.symm, h1 _ (by simp)⟩
  · cases h
theorem if_some {α : Type} {c : Prop} [Decidable c] {a b : α} (h : (if c then some a else none) = some b) : c ∧ a = b := by
  split at h
  · exact ⟨by assumption, by injection h⟩
  · cases h
/-- A text that is parsed is the text of its plant. -/
theorem plant_only {p : Pl} {m : Nat} {t : List UInt8} (h : parsePlantT t = (p, m, 0)) : plantT p = (t, 0) := by
  unfold parsePlantT plWords at h
  obtain ⟨ps0, p0, t0, e0, r0, h0⟩ := plant_read h
  clear h
  obtain ⟨ps1, p1, t1, e1, r1, h1⟩ := plant_read h0
  clear h0
  obtain ⟨ps2, p2, t2, e2, r2, h2⟩ := plant_read h1
  clear h1
  obtain ⟨ps3, p3, t3, e3, r3, h3⟩ := plant_read h2
  clear h2
  obtain ⟨ps4, p4, t4, e4, r4, h4⟩ := plant_read h3
  clear h3
  obtain ⟨ps5, p5, t5, e5, r5, h5⟩ := plant_read h4
  clear h4
  obtain ⟨ps6, p6, t6, e6, r6, h6⟩ := plant_read h5
  clear h5
  obtain ⟨ps7, p7, t7, e7, r7, h7⟩ := plant_read h6
  clear h6
  obtain ⟨ps8, p8, t8, e8, r8, h8⟩ := plant_read h7
  clear h7
  obtain ⟨ps9, p9, t9, e9, r9, h9⟩ := plant_read h8
  clear h8
  obtain ⟨ps10, p10, t10, e10, r10, h10⟩ := plant_read h9
  clear h9
  obtain ⟨ps11, p11, t11, e11, r11, h11⟩ := plant_read h10
  clear h10
  obtain ⟨ps12, p12, t12, e12, r12, h12⟩ := plant_read h11
  clear h11
  unfold plantGo at h12
  obtain ⟨hz, h⟩ : t12 = [] ∧ (p12, 0, 0) = (p, m, (0 : Int)) := by
    split at h12
    · exact ⟨by assumption, h12⟩
    · cases h12
  injection h with h _
  clear h12
  have q0 : ∃ a, ps0 = [a] ∧ isTokL a = true ∧ p0 = ⟨a, 0, [], false, 0, 0, 0, 0, false, 0, 0, 0, 0, 0, 0, 0, 0, 0, 0⟩ := by
    unfold readLine at r0
    rw [if_pos rfl] at r0
    split at r0
    · obtain ⟨h1, h2⟩ := if_some r0
      exact ⟨_, rfl, h1, h2.symm⟩
    · cases r0
  obtain ⟨va, rfl, ta, rfl⟩ := q0
  clear r0
  have q1 : ∃ v1, oneL ps1 = some v1 ∧ p1 = ⟨va, v1, [], false, 0, 0, 0, 0, false, 0, 0, 0, 0, 0, 0, 0, 0, 0, 0⟩ := by
    obtain ⟨v, o, h⟩ := Option.map_eq_some_iff.1 (show (oneL ps1).map _ = some p1 from r1)
    exact ⟨v, o, h.symm⟩
  obtain ⟨v1, o1, rfl⟩ := q1
  clear r1
  have q2 : ps2.all isTokL = true ∧ p2 = ⟨va, v1, ps2, false, 0, 0, 0, 0, false, 0, 0, 0, 0, 0, 0, 0, 0, 0, 0⟩ := by
    obtain ⟨h1, h2⟩ := if_some (show (if ps2.all isTokL = true then some _ else none) = some p2 from r2)
    exact ⟨h1, h2.symm⟩
  obtain ⟨tb, rfl⟩ := q2
  clear r2
  have q3 : ∃ v3, oneL ps3 = some v3 ∧ (v3 = 0 ∨ v3 = 1) ∧ p3 = ⟨va, v1, ps2, (decide (v3 = 1)), 0, 0, 0, 0, false, 0, 0, 0, 0, 0, 0, 0, 0, 0, 0⟩ := by
    obtain ⟨v, o, h⟩ := Option.bind_eq_some_iff.1 (show (oneL ps3).bind _ = some p3 from r3)
    obtain ⟨h1, h2⟩ := if_some h
    exact ⟨v, o, h1, h2.symm⟩
  obtain ⟨v3, o3, c3, rfl⟩ := q3
  clear r3
  have q4 : ∃ w0 w1 w2 w3 w4, undecAllL ps4 = some [w0, w1, w2, w3, w4] ∧ (w4 = 0 ∨ w4 = 1) ∧ p4 = ⟨va, v1, ps2, (decide (v3 = 1)), w0, w1, w2, w3, (decide (w4 = 1)), 0, 0, 0, 0, 0, 0, 0, 0, 0, 0⟩ := by
    obtain ⟨l, o, h⟩ := Option.bind_eq_some_iff.1 (show (undecAllL ps4).bind _ = some p4 from r4)
    split at h
    · obtain ⟨h1, h2⟩ := if_some h
      exact ⟨_, _, _, _, _, o, h1, h2.symm⟩
    · cases h
  obtain ⟨w0, w1, w2, w3, w4, o4, c4, rfl⟩ := q4
  clear r4
  have q5 : ∃ x0 x1 x2, undecAllL ps5 = some [x0, x1, x2] ∧ p5 = ⟨va, v1, ps2, (decide (v3 = 1)), w0, w1, w2, w3, (decide (w4 = 1)), x0, x1, x2, 0, 0, 0, 0, 0, 0, 0⟩ := by
    obtain ⟨l, o, h⟩ := Option.bind_eq_some_iff.1 (show (undecAllL ps5).bind _ = some p5 from r5)
    split at h
    · injection h with h
      exact ⟨_, _, _, o, h.symm⟩
    · cases h
  obtain ⟨x0, x1, x2, o5, rfl⟩ := q5
  clear r5
  have q6 : ∃ v6, oneL ps6 = some v6 ∧ p6 = ⟨va, v1, ps2, (decide (v3 = 1)), w0, w1, w2, w3, (decide (w4 = 1)), x0, x1, x2, v6, 0, 0, 0, 0, 0, 0⟩ := by
    obtain ⟨v, o, h⟩ := Option.map_eq_some_iff.1 (show (oneL ps6).map _ = some p6 from r6)
    exact ⟨v, o, h.symm⟩
  obtain ⟨v6, o6, rfl⟩ := q6
  clear r6
  have q7 : ∃ v7, oneL ps7 = some v7 ∧ p7 = ⟨va, v1, ps2, (decide (v3 = 1)), w0, w1, w2, w3, (decide (w4 = 1)), x0, x1, x2, v6, v7, 0, 0, 0, 0, 0⟩ := by
    obtain ⟨v, o, h⟩ := Option.map_eq_some_iff.1 (show (oneL ps7).map _ = some p7 from r7)
    exact ⟨v, o, h.symm⟩
  obtain ⟨v7, o7, rfl⟩ := q7
  clear r7
  have q8 : ∃ v8, oneL ps8 = some v8 ∧ p8 = ⟨va, v1, ps2, (decide (v3 = 1)), w0, w1, w2, w3, (decide (w4 = 1)), x0, x1, x2, v6, v7, v8, 0, 0, 0, 0⟩ := by
    obtain ⟨v, o, h⟩ := Option.map_eq_some_iff.1 (show (oneL ps8).map _ = some p8 from r8)
    exact ⟨v, o, h.symm⟩
  obtain ⟨v8, o8, rfl⟩ := q8
  clear r8
  have q9 : ∃ v9, oneL ps9 = some v9 ∧ p9 = ⟨va, v1, ps2, (decide (v3 = 1)), w0, w1, w2, w3, (decide (w4 = 1)), x0, x1, x2, v6, v7, v8, v9, 0, 0, 0⟩ := by
    obtain ⟨v, o, h⟩ := Option.map_eq_some_iff.1 (show (oneL ps9).map _ = some p9 from r9)
    exact ⟨v, o, h.symm⟩
  obtain ⟨v9, o9, rfl⟩ := q9
  clear r9
  have q10 : ∃ v10, oneL ps10 = some v10 ∧ p10 = ⟨va, v1, ps2, (decide (v3 = 1)), w0, w1, w2, w3, (decide (w4 = 1)), x0, x1, x2, v6, v7, v8, v9, v10, 0, 0⟩ := by
    obtain ⟨v, o, h⟩ := Option.map_eq_some_iff.1 (show (oneL ps10).map _ = some p10 from r10)
    exact ⟨v, o, h.symm⟩
  obtain ⟨v10, o10, rfl⟩ := q10
  clear r10
  have q11 : ∃ v11, oneL ps11 = some v11 ∧ p11 = ⟨va, v1, ps2, (decide (v3 = 1)), w0, w1, w2, w3, (decide (w4 = 1)), x0, x1, x2, v6, v7, v8, v9, v10, v11, 0⟩ := by
    obtain ⟨v, o, h⟩ := Option.map_eq_some_iff.1 (show (oneL ps11).map _ = some p11 from r11)
    exact ⟨v, o, h.symm⟩
  obtain ⟨v11, o11, rfl⟩ := q11
  clear r11
  have q12 : ∃ v12, oneL ps12 = some v12 ∧ p12 = ⟨va, v1, ps2, (decide (v3 = 1)), w0, w1, w2, w3, (decide (w4 = 1)), x0, x1, x2, v6, v7, v8, v9, v10, v11, v12⟩ := by
    obtain ⟨v, o, h⟩ := Option.map_eq_some_iff.1 (show (oneL ps12).map _ = some p12 from r12)
    exact ⟨v, o, h.symm⟩
  obtain ⟨v12, o12, rfl⟩ := q12
  clear r12
  subst h
  obtain ⟨rfl, _⟩ := one_some o1
  obtain ⟨rfl, _⟩ := one_some o3
  obtain ⟨rfl, _⟩ := one_some o6
  obtain ⟨rfl, _⟩ := one_some o7
  obtain ⟨rfl, _⟩ := one_some o8
  obtain ⟨rfl, _⟩ := one_some o9
  obtain ⟨rfl, _⟩ := one_some o10
  obtain ⟨rfl, _⟩ := one_some o11
  obtain ⟨rfl, _⟩ := one_some o12
  obtain ⟨_, rfl⟩ := undecAll_iff.1 o4
  obtain ⟨_, rfl⟩ := undecAll_iff.1 o5
  have b3 : bit (decide (v3 = 1)) = v3 := by rcases c3 with rfl | rfl <;> rfl
  have b4 : bit (decide (w4 = 1)) = w4 := by rcases c4 with rfl | rfl <;> rfl
  unfold plantT
  simp only [ta, tb, Bool.and_self, if_true]
  unfold plantLines
  simp only [b3, b4, List.flatMap_cons, List.flatMap_nil, List.append_nil, List.append_assoc, List.cons_append, List.nil_append, line_join, List.map_cons, List.map_nil]
  simp only [e0, e1, e2, e3, e4, e5, e6, e7, e8, e9, e10, e11, e12, hz, List.append_assoc, List.cons_append, List.nil_append, List.map_cons, List.map_nil]
end Go.Proofs.YtddnmocoaahlfaaGreatDoor
namespace Go.Proofs.YtddnmocoaahlfaaGreatDoor
open Go.RowKit
def dig10 (u : Nat) : List UInt8 := if u = 0 then [] else Lib.decDigits u
theorem dig10_step {u : Nat} (h : u ≠ 0) : dig10 u = dig10 (u / 10) ++ [UInt8.ofNat (48 + u % 10)] := by
  unfold dig10
  rw [if_neg h, Lib.decDigits]
  split
  · rw [if_pos (by omega)]
    rw [Nat.mod_eq_of_lt (by assumption)]; rfl
  · rw [if_neg (by omega)]
def dig10s : ByteArray := ⟨#[48, 49, 50, 51, 52, 53, 54, 55, 56, 57]⟩
theorem dig10s_cut : ∀ i : Fin 10, txt (dig10s.extract i.val (i.val + 1)) = [UInt8.ofNat (48 + i.val)] := by decide +kernel
theorem dig10_len {u : Nat} (h : u ≤ 9223372036854775808) : (dig10 u).length ≤ 20 := by
  unfold dig10
  split
  · simp
  · rw [Lib.decDigits_length]; exact Lib.nDigits_le20 u (by omega)
theorem cat9 {a b : ByteArray} (h : a.size + b.size ≤ 9223372036854775807) : Op.stringOp .add a b = pure (.string (a ++ b)) := by
  unfold Op.stringOp
  exact if_neg (show ¬ (((a.size + b.size : Nat) : Int) > 9223372036854775807) by omega)
theorem txt_append9 (a b : ByteArray) : txt (a ++ b) = txt a ++ txt b := by simp
theorem itoa_dig {n : Int} (h : n ≠ 0) : Lib.itoa n = if n < 0 then 45 :: dig10 n.natAbs else dig10 n.natAbs := by
  have hz : dig10 n.natAbs = Lib.decDigits n.natAbs := by unfold dig10; rw [if_neg (by omega)]
  rw [hz]
  unfold Lib.itoa
  split
  · rfl
  · rw [show n.toNat = n.natAbs by omega]
set_option maxHeartbeats 4000000 in
theorem number_any {n : Int} (hn : I64 n) (w : World) : Calls Tryz.prog 33 #[.int .i64 n] w fun e w' => ∃ s : ByteArray, e = .returned (.string s) ∧ txt s = Lib.itoa n ∧ w' = w := by
  have hn1 := hn.1
  have hn2 := hn.2
  by_cases h0 : n = 0
  · subst h0
    go_enter Tryz.func33, Tryz.ntmps33
    go_wp2_with fail
    go_ret
    exact ⟨_, rfl, by rw [Lib.itoa, if_neg (by decide), show (0 : Int).toNat = 0 from rfl, Lib.decDigits, dif_pos (by decide)]; rfl, rfl⟩
  · have z0 : (n == 0) = false := by simpa using h0
    go_enter Tryz.func33, Tryz.ntmps33
    go_wp2_with fail
    go_loop [4, 3] (fun t v => ∃ (x : Int) (sp : ByteArray), t = .int .i64 x ∧ v = .string sp ∧ I64 x ∧ (0 < n → 0 ≤ x) ∧ (n < 0 → x ≤ 0) ∧ dig10 x.natAbs ++ txt sp = dig10 n.natAbs) (fun t v => (intOf t).natAbs)
    case atStart => exact ⟨n, _, rfl, rfl, hn, fun h => by omega, fun h => by omega, by simp⟩
    case round =>
      obtain ⟨x, sp, rfl, rfl, hx, hp, hm, hsp⟩ := hrel
      have HSP := Lib.hid hsp
      clear hsp
      by_cases hx0 : x = 0
      · have z1 : (x != 0) = false := by simp [hx0]
        have hfin : txt sp = dig10 n.natAbs := by have := HSP.out; rw [hx0] at this; simpa [dig10] using this
        have HF := Lib.hid hfin
        clear hfin
        have hsz : sp.size ≤ 20 := by
          have : (txt sp).length = sp.size := by simp
          rw [← this, HF.out]; exact dig10_len (by omega)
        by_cases hneg : n < 0
        · have dn : decide (n < 0) = true := decide_eq_true hneg
          have hc := cat9 (a := ⟨#[45]⟩) (b := sp) (by have : (⟨#[45]⟩ : ByteArray).size = 1 := rfl; omega)
          go_wp2_with fail
          go_ret
          refine ⟨_, rfl, ?_, rfl⟩
          rw [itoa_dig h0, if_pos hneg, ← HF.out]; simp
        · have dn : decide (n < 0) = false := decide_eq_false hneg
          go_wp2_with fail
          go_ret
          refine ⟨_, rfl, ?_, rfl⟩
          rw [itoa_dig h0, if_neg (by omega), ← HF.out]
      · have z1 : (x != 0) = true := by simp [hx0]
        have hst := HSP.out
        rw [dig10_step (by omega)] at hst
        have HST := Lib.hid hst
        have hsz : sp.size ≤ 20 := by
          have h1 : (txt sp).length = sp.size := by simp
          have h2 := congrArg List.length HSP.out
          rw [List.length_append] at h2
          have := dig10_len (u := n.natAbs) (by omega)
          omega
        clear hst
        obtain ⟨u, hu⟩ : ∃ u : Nat, x.natAbs = u := ⟨_, rfl⟩
        have hcut : txt (dig10s.extract (u % 10) (u % 10 + 1)) = [UInt8.ofNat (48 + u % 10)] := dig10s_cut ⟨u % 10, Nat.mod_lt _ (by decide)⟩
        have hcs : (dig10s.extract (u % 10) (u % 10 + 1)).size = 1 := by
          have : (txt (dig10s.extract (u % 10) (u % 10 + 1))).length = (dig10s.extract (u % 10) (u % 10 + 1)).size := by simp
          rw [← this, hcut]; rfl
        have hc := cat9 (a := dig10s.extract (u % 10) (u % 10 + 1)) (b := sp) (by omega)
        have hu64 : u ≤ 9223372036854775808 := by have := hx.1; have := hx.2; omega
        have hend : dig10 (u / 10) ++ txt (dig10s.extract (u % 10) (u % 10 + 1) ++ sp) = dig10 n.natAbs := by
          rw [← HST.out, hu, txt_append9, hcut, List.append_assoc]
        unfold dig10s at hc hend
        have HE := Lib.hid hend
        clear hend hcut hcs HST HSP
        by_cases hs : x < 0
        · obtain rfl : x = -(u : Int) := by omega
          by_cases hd : u % 10 = 0
          · have hz : -((u : Int) % 10) = ((u % 10 : Nat) : Int) := by omega
            go_wp2_with fail
            have he := HE.out
            rw [hd] at he
            refine ⟨⟨-((u / 10 : Nat) : Int), _, congrArg (fun y => Value.int .i64 (-y)) (show (u : Int) / 10 = ((u / 10 : Nat) : Int) by omega), rfl, ⟨by omega, by omega⟩, fun h => by have := hp h; omega, fun _ => by omega, ?_⟩, by simp only [intOf]; omega⟩
            rw [Int.natAbs_neg]; exact he
          · go_wp2_with fail
            refine ⟨⟨-((u / 10 : Nat) : Int), _, congrArg (fun y => Value.int .i64 (-y)) (show (u : Int) / 10 = ((u / 10 : Nat) : Int) by omega), rfl, ⟨by omega, by omega⟩, fun h => by have := hp h; omega, fun _ => by omega, ?_⟩, by simp only [intOf]; omega⟩
            rw [Int.natAbs_neg]; exact HE.out
        · obtain rfl : x = (u : Int) := by omega
          go_wp2_with fail
          refine ⟨⟨((u / 10 : Nat) : Int), _, congrArg _ (show (u : Int) / 10 = ((u / 10 : Nat) : Int) by omega), rfl, ⟨by omega, by omega⟩, fun _ => by omega, fun h => by have := hm h; omega, ?_⟩, by simp only [intOf]; omega⟩
          exact HE.out
end Go.Proofs.YtddnmocoaahlfaaGreatDoor
