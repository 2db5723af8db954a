/-
  What a text of a plant that is parsed tells of its numbers and its length, in plain Lean. No condition; no program in sight.
-/
import Derived.Test.YtddnmocoaahlfaaGreatDoorPlt
set_option linter.unusedVariables false
set_option linter.unusedSimpArgs false

namespace Go.Proofs.YtddnmocoaahlfaaGreatDoor
theorem ints_iff {P : Int → Prop} (p : Pl) : (∀ n ∈ p.ints, P n) ↔ P p.length ∧ P p.rows ∧ P p.cols ∧ P p.ream ∧ P p.bundle ∧ P p.reprint ∧ P p.star ∧ P p.open_ ∧ P p.sheets ∧ P p.presses ∧ P p.life ∧ P p.plates ∧ P p.dry ∧ P p.vaults ∧ P p.blocks := by
  unfold Pl.ints
  have h0 : (∀ x ∈ ([] : List Int), P x) ↔ True := ⟨fun _ => trivial, fun _ x hx => nomatch hx⟩
  rw [List.forall_mem_cons, List.forall_mem_cons, List.forall_mem_cons, List.forall_mem_cons, List.forall_mem_cons, List.forall_mem_cons, List.forall_mem_cons, List.forall_mem_cons, List.forall_mem_cons, List.forall_mem_cons, List.forall_mem_cons, List.forall_mem_cons, List.forall_mem_cons, List.forall_mem_cons, List.forall_mem_cons, h0, and_true]
theorem read0 {p q : Pl} {ps : List (List UInt8)} (h : readLine 0 p ps = some q) : ∃ a, ps = [a] ∧ q = { p with alphabet := a } := by
  unfold readLine at h
  rw [if_pos rfl] at h
  split at h
  · obtain ⟨_, rfl⟩ := if_some h
    exact ⟨_, rfl, rfl⟩
  · cases h
theorem readLine_ints {k : Nat} {p q : Pl} {ps : List (List UInt8)} (h : readLine k p ps = some q) (hp : ∀ n ∈ p.ints, I64 n) : ∀ n ∈ q.ints, I64 n := by
  rw [ints_iff] at hp ⊢
  obtain ⟨a1, a2, a3, a4, a5, a6, a7, a8, a9, a10, a11, a12, a13, a14, a15⟩ := hp
  match k, h with
  | 0, h =>
    obtain ⟨a, rfl, hq⟩ := read0 h
    subst hq
    exact ⟨a1, a2, a3, a4, a5, a6, a7, a8, a9, a10, a11, a12, a13, a14, a15⟩
  | 1, h =>
    have h : (oneL ps).map (fun n => { p with length := n }) = some q := h
    obtain ⟨v, o, rfl⟩ := Option.map_eq_some_iff.1 h
    exact ⟨(one_some o).2, a2, a3, a4, a5, a6, a7, a8, a9, a10, a11, a12, a13, a14, a15⟩
  | 2, h =>
    have h : (if ps.all isTokL then some { p with banned := p.banned ++ ps } else none) = some q := h
    obtain ⟨_, rfl⟩ := if_some h
    exact ⟨a1, a2, a3, a4, a5, a6, a7, a8, a9, a10, a11, a12, a13, a14, a15⟩
  | 3, h =>
    have h : ((oneL ps).bind fun n => if n = 0 ∨ n = 1 then some { p with check := decide (n = 1) } else none) = some q := h
    obtain ⟨v, o, h⟩ := Option.bind_eq_some_iff.1 h
    obtain ⟨_, rfl⟩ := if_some h
    exact ⟨a1, a2, a3, a4, a5, a6, a7, a8, a9, a10, a11, a12, a13, a14, a15⟩
  | 4, h =>
    have h : ((undecAllL ps).bind fun l => match l with | [a, b, c, d, e] => if e = 0 ∨ e = 1 then some { p with rows := a, cols := b, ream := c, bundle := d, down := decide (e = 1) } else none | _ => none) = some q := h
    obtain ⟨l, o, h⟩ := Option.bind_eq_some_iff.1 h
    have hi := (undecAll_iff.1 o).1
    match l, hi, h with
    | [a, b, c, d, e], hi, h =>
      obtain ⟨_, rfl⟩ := if_some h
      exact ⟨a1, hi _ (.head _), hi _ (.tail _ (.head _)), hi _ (.tail _ (.tail _ (.head _))), hi _ (.tail _ (.tail _ (.tail _ (.head _)))), a6, a7, a8, a9, a10, a11, a12, a13, a14, a15⟩
  | 5, h =>
    have h : ((undecAllL ps).bind fun l => match l with | [a, b, c] => some { p with reprint := a, star := b, open_ := c } | _ => none) = some q := h
    obtain ⟨l, o, h⟩ := Option.bind_eq_some_iff.1 h
    have hi := (undecAll_iff.1 o).1
    match l, hi, h with
    | [a, b, c], hi, h =>
      injection h with h
      subst h
      exact ⟨a1, a2, a3, a4, a5, hi _ (.head _), hi _ (.tail _ (.head _)), hi _ (.tail _ (.tail _ (.head _))), a9, a10, a11, a12, a13, a14, a15⟩
  | 6, h =>
    have h : (oneL ps).map (fun n => { p with sheets := n }) = some q := h
    obtain ⟨v, o, rfl⟩ := Option.map_eq_some_iff.1 h
    exact ⟨a1, a2, a3, a4, a5, a6, a7, a8, (one_some o).2, a10, a11, a12, a13, a14, a15⟩
  | 7, h =>
    have h : (oneL ps).map (fun n => { p with presses := n }) = some q := h
    obtain ⟨v, o, rfl⟩ := Option.map_eq_some_iff.1 h
    exact ⟨a1, a2, a3, a4, a5, a6, a7, a8, a9, (one_some o).2, a11, a12, a13, a14, a15⟩
  | 8, h =>
    have h : (oneL ps).map (fun n => { p with life := n }) = some q := h
    obtain ⟨v, o, rfl⟩ := Option.map_eq_some_iff.1 h
    exact ⟨a1, a2, a3, a4, a5, a6, a7, a8, a9, a10, (one_some o).2, a12, a13, a14, a15⟩
  | 9, h =>
    have h : (oneL ps).map (fun n => { p with plates := n }) = some q := h
    obtain ⟨v, o, rfl⟩ := Option.map_eq_some_iff.1 h
    exact ⟨a1, a2, a3, a4, a5, a6, a7, a8, a9, a10, a11, (one_some o).2, a13, a14, a15⟩
  | 10, h =>
    have h : (oneL ps).map (fun n => { p with dry := n }) = some q := h
    obtain ⟨v, o, rfl⟩ := Option.map_eq_some_iff.1 h
    exact ⟨a1, a2, a3, a4, a5, a6, a7, a8, a9, a10, a11, a12, (one_some o).2, a14, a15⟩
  | 11, h =>
    have h : (oneL ps).map (fun n => { p with vaults := n }) = some q := h
    obtain ⟨v, o, rfl⟩ := Option.map_eq_some_iff.1 h
    exact ⟨a1, a2, a3, a4, a5, a6, a7, a8, a9, a10, a11, a12, a13, (one_some o).2, a15⟩
  | 12, h =>
    have h : (oneL ps).map (fun n => { p with blocks := n }) = some q := h
    obtain ⟨v, o, rfl⟩ := Option.map_eq_some_iff.1 h
    exact ⟨a1, a2, a3, a4, a5, a6, a7, a8, a9, a10, a11, a12, a13, a14, (one_some o).2⟩
  | n + 13, h => exact nomatch (show none = some q from h)
theorem plZero_ints : ∀ n ∈ plZero.ints, I64 n := by
  rw [ints_iff]
  have h : I64 0 := ⟨by decide, by decide⟩
  exact ⟨h, h, h, h, h, h, h, h, h, h, h, h, h, h, h⟩
theorem plantGo_ints : ∀ (ws : List (List UInt8)) (k : Nat) (p : Pl) (t : List UInt8), (∀ n ∈ p.ints, I64 n) → ∀ n ∈ (plantGo ws k p t).1.ints, I64 n
  | [], k, p, t, hp => by
    unfold plantGo
    split
    · exact hp
    · exact plZero_ints
  | w :: ws, k, p, t, hp => by
    unfold plantGo
    cases cut1 t with
    | none => exact plZero_ints
    | some lr =>
      simp only
      cases hl : lineP k w p (cutAt 32 lr.1) with
      | none => exact plZero_ints
      | some q =>
        simp only
        refine plantGo_ints ws (k + 1) q lr.2 ?_
        unfold lineP at hl
        split at hl
        · exact readLine_ints hl hp
        · cases hl
theorem parsePlant_ints (t : List UInt8) : ∀ n ∈ (parsePlantT t).1.ints, I64 n := plantGo_ints _ _ _ _ plZero_ints
theorem joinB_len0 (b : UInt8) (w : List UInt8) : ∀ ps : List (List UInt8), (joinB b w ps).length = w.length + (ps.map (fun p => p.length + 1)).sum
  | [] => by simp [joinB]
  | p :: ps => by
    have ih := joinB_len0 b w ps
    unfold joinB at ih ⊢
    simp only [List.flatMap_cons, List.length_append, List.length_cons, List.map_cons, List.sum_cons] at ih ⊢
    omega
theorem flat_mem (l : List (List UInt8)) (x : List UInt8) (y : List UInt8) (r : List (List UInt8)) (h : l = x :: y :: r) (z : List UInt8) (r2 : List (List UInt8)) (h2 : r = z :: r2) : x.length + z.length ≤ (l.flatMap (· ++ [10])).length := by
  subst h; subst h2
  simp only [List.flatMap_cons, List.length_append]
  omega
/-- A plant's text is longer than its strings. -/
theorem plantT_long {p : Pl} {t : List UInt8} (h : plantT p = (t, 0)) : p.alphabet.length + (p.banned.map (fun b => b.length + 1)).sum ≤ t.length := by
  unfold plantT at h
  split at h
  · injection h with h _
    subst h
    refine Nat.le_trans ?_ (flat_mem (plantLines p) _ _ _ rfl _ _ rfl)
    rw [joinB_len0, joinB_len0]
    simp only [List.map_cons, List.map_nil, List.sum_cons, List.sum_nil]
    omega
  · cases h
theorem tok_len0 {t : List UInt8} (h : isTokL t = true) : t.length ≤ 64 := by
  unfold isTokL at h
  simp only [Bool.and_eq_true, decide_eq_true_eq] at h
  exact h.2
theorem three_i64 {l : List Int} (h : ∀ n ∈ l, I64 n) : ∀ n ∈ (l ++ [0, 0, 0]).take 3, I64 n := fun n hn => by
  have h0 : I64 0 := ⟨by decide, by decide⟩
  rcases List.mem_append.1 (List.mem_of_mem_take hn) with h1 | h1
  · exact h n h1
  · have : n = 0 := by simpa using h1
    rw [this]; exact h0
theorem evZero_facts : (∀ n ∈ evZero.f, I64 n) ∧ evZero.text.length ≤ 64 := by
  have h0 : I64 0 := ⟨by decide, by decide⟩
  refine ⟨fun n hn => ?_, Nat.zero_le _⟩
  have : n = 0 := by
    have hn : n ∈ [(0 : Int), 0, 0] := hn
    simpa using hn
  rw [this]; exact h0
/-- The numbers and the text of an event that is read. -/
theorem parseEv_facts (s : List UInt8) : (∀ n ∈ (parseEvT s).1.f, I64 n) ∧ (parseEvT s).1.text.length ≤ 64 := by
  unfold parseEvT parseEv
  split
  · exact evZero_facts
  split
  · split
    · exact evZero_facts
    split
    · rename_i hx
      cases hu : undecAllL ((cutAt 32 s).tail).dropLast with
      | none => exact evZero_facts
      | some l =>
        simp only
        split
        · exact ⟨three_i64 (undecAll_iff.1 hu).1, tok_len0 hx⟩
        · exact evZero_facts
    · exact evZero_facts
  · cases hu : undecAllL (cutAt 32 s).tail with
    | none => exact evZero_facts
    | some l =>
      simp only
      split
      · exact ⟨three_i64 (undecAll_iff.1 hu).1, Nat.zero_le _⟩
      · exact evZero_facts
end Go.Proofs.YtddnmocoaahlfaaGreatDoor
