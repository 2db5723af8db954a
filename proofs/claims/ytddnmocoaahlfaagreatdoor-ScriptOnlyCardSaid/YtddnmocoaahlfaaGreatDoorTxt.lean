/-
  The texts of numbers, acts and events in plain Lean. No condition; no program in sight.
-/
import Derived.Test.YtddnmocoaahlfaaGreatDoorPlain
import Derived.Lib.AtoiAllCases
set_option linter.unusedVariables false
set_option linter.unusedSimpArgs false

namespace Go.Proofs.YtddnmocoaahlfaaGreatDoor
open Go.Lib
def I64 (n : Int) : Prop := -9223372036854775808 ≤ n ∧ n ≤ 9223372036854775807
def valFrom (acc : Nat) (l : List UInt8) : Nat := l.foldl (fun n c => 10 * n + (c.toNat - 48)) acc
theorem dig_range {c : UInt8} (h : isDig c = true) : 48 ≤ c.toNat ∧ c.toNat ≤ 57 := by
  unfold isDig at h
  simp only [Bool.and_eq_true, decide_eq_true_eq, UInt8.le_iff_toNat_le] at h
  exact h
theorem valFrom_le : ∀ (l : List UInt8) (acc : Nat), acc ≤ valFrom acc l
  | [], acc => Nat.le_refl _
  | c :: l, acc => by
    have := valFrom_le l (10 * acc + (c.toNat - 48))
    unfold valFrom at *
    rw [List.foldl_cons]
    omega
theorem parse_val : ∀ (l : List UInt8) (acc : Nat), (∀ c ∈ l, isDig c = true) → valFrom acc l < 18446744073709551616 → parseUint10 acc l = .ok (valFrom acc l)
  | [], acc, _, _ => rfl
  | c :: l, acc, hd, hv => by
    have h1 := dig_range (hd c (by simp))
    have e : valFrom acc (c :: l) = valFrom (10 * acc + (c.toNat - 48)) l := rfl
    rw [e] at hv ⊢
    have h2 := valFrom_le l (10 * acc + (c.toNat - 48))
    unfold parseUint10
    rw [if_pos h1, if_neg (by omega), if_neg (by omega), Nat.mul_comm acc 10]
    exact parse_val l _ (fun d hm => hd d (by simp [hm])) hv
theorem mag_dec {u : Nat} (h : u < 18446744073709551616) : parseMag (decDigits u) = .ok u := by
  obtain ⟨h1, h2, c, t, h3, _⟩ := decDigits_facts u
  unfold parseMag
  rw [if_neg (by rw [h3]; simp)]
  have e : valFrom 0 (decDigits u) = u := h2
  rw [parse_val _ _ h1 (by rw [e]; exact h), e]
theorem atoi_itoa {n : Int} (h : I64 n) : atoiAll (itoa n) = .ok n := by
  unfold I64 at h
  unfold itoa
  by_cases hn : n < 0
  · rw [if_pos hn, atoiAll_minus, mag_dec (by omega)]
    simp only [signed]
    rw [if_neg (by omega)]
    congr 1
    omega
  · rw [if_neg hn]
    obtain ⟨h1, h2, c, t, h3, _⟩ := decDigits_facts n.toNat
    have hm := mag_dec (u := n.toNat) (by omega)
    rw [h3] at hm h1 ⊢
    have hc := dig_range (h1 c (by simp))
    rw [atoiAll_plain c t (by omega) (by omega), hm]
    simp only [signless]
    rw [if_neg (by omega)]
    congr 1
    omega
/-- The number of a number text. -/
def undecL (s : List UInt8) : Option Int := match atoiAll s with | .ok v => if itoa v = s then some v else none | _ => none
theorem undec_iff {s : List UInt8} {v : Int} : undecL s = some v ↔ I64 v ∧ itoa v = s := by
  constructor
  · intro h
    unfold undecL at h
    cases ha : atoiAll s with
    | ok u =>
      rw [ha] at h
      simp only at h
      split at h
      · injection h with h
        subst h
        exact ⟨atoiAll_bounds ha, by assumption⟩
      · cases h
    | range => rw [ha] at h; cases h
    | _ => rw [ha] at h; cases h
  · rintro ⟨h, rfl⟩
    unfold undecL
    rw [atoi_itoa h]
    simp
def undecAllL : List (List UInt8) → Option (List Int)
  | [] => some []
  | s :: ss => match undecL s with
    | none => none
    | some n => match undecAllL ss with
      | none => none
      | some l => some (n :: l)
theorem undecAll_iff : ∀ {ss : List (List UInt8)} {l : List Int}, undecAllL ss = some l ↔ (∀ n ∈ l, I64 n) ∧ l.map itoa = ss
  | [], l => by
    unfold undecAllL
    constructor
    · intro h; injection h with h; subst h; exact ⟨(fun n hn => by cases hn), rfl⟩
    · intro h; rw [List.map_eq_nil_iff.1 h.2]
  | s :: ss, l => by
    unfold undecAllL
    constructor
    · intro h
      cases hs : undecL s with
      | none => rw [hs] at h; cases h
      | some n =>
        rw [hs] at h
        cases hr : undecAllL ss with
        | none => rw [hr] at h; cases h
        | some r =>
          rw [hr] at h
          injection h with h
          subst h
          obtain ⟨h1, h2⟩ := undec_iff.1 hs
          obtain ⟨h3, h4⟩ := undecAll_iff.1 hr
          refine ⟨fun m hm => ?_, by rw [List.map_cons, h2, h4]⟩
          rcases List.mem_cons.1 hm with rfl | hm
          · exact h1
          · exact h3 m hm
    · rintro ⟨h1, h2⟩
      cases l with
      | nil => cases h2
      | cons n r =>
        rw [List.map_cons] at h2
        injection h2 with e1 e2
        rw [undec_iff.2 ⟨h1 n (by simp), e1⟩, undecAll_iff.2 ⟨fun m hm => h1 m (by simp [hm]), e2⟩]
/-! Pieces between single bytes, joined again. -/
def joinB (b : UInt8) (w : List UInt8) (ps : List (List UInt8)) : List UInt8 := w ++ ps.flatMap (b :: ·)
theorem join_cut (b : UInt8) : ∀ s : List UInt8, ∃ w ps, cutAt b s = w :: ps ∧ s = joinB b w ps
  | [] => ⟨[], [], rfl, rfl⟩
  | c :: s => by
    obtain ⟨w, ps, h1, h2⟩ := join_cut b s
    by_cases hc : c = b
    · subst hc
      exact ⟨[], w :: ps, by rw [cutAt_cons_eq, h1], by rw [h2]; simp [joinB]⟩
    · exact ⟨c :: w, ps, cutAt_cons_ne hc h1, by rw [h2]; simp [joinB]⟩
theorem line_join (w : List UInt8) (l : List Int) : lineT w l = joinB 32 w (l.map itoa) := by unfold lineT joinB; rw [List.flatMap_map]
/-! The line of an act, read again. -/
def actZero : Act5 := ⟨0, [0, 0, 0, 0, 0], []⟩
def parseAct (k : Nat) (ps : List (List UInt8)) : Act5 × Int :=
  match undecAllL ps with
  | none => (actZero, 4)
  | some l => if k = 0 then (actZero, 4) else if (k ≠ 17 ∧ l.length ≠ fieldsOf k) ∨ l.length > 16 then (actZero, 4) else (makeActL k l, 0)
def parseT (s : List UInt8) : Act5 × Int := parseAct (actOfL ((cutAt 32 s).headD [])) (cutAt 32 s).tail
theorem parseT_of {s w : List UInt8} {ps : List (List UInt8)} (h : cutAt 32 s = w :: ps) : parseT s = parseAct (actOfL w) ps := by unfold parseT; rw [h]; rfl
theorem actOf_word {t : List UInt8} {k : Nat} (h : actOfL t = k) (hk : k ≠ 0) : wordOf k = t ∧ 1 ≤ k ∧ k ≤ 17 := by
  unfold actOfL at h
  cases hf : actWords.findIdx? (fun x => x.1 == t) with
  | none => rw [hf] at h; simp at h; omega
  | some i =>
    rw [hf] at h
    simp at h
    obtain ⟨hlt, h1, _⟩ := List.findIdx?_eq_some_iff_getElem.1 hf
    have h17 : actWords.length = 17 := rfl
    refine ⟨?_, by omega, by omega⟩
    unfold wordOf
    have e : k - 1 = i := by omega
    rw [e, List.getD_eq_getElem?_getD, List.getElem?_eq_getElem hlt]
    simpa using h1
/-- A line that is parsed is the line of its act. -/
theorem act_only {s : List UInt8} {a : Act5} (h : parseT s = (a, 0)) : textT a.kind a.f a.keep = (s, 0) ∧ a.f.length = 5 ∧ (∀ n ∈ a.f ++ a.keep, I64 n) ∧ a.kind ≤ 17 := by
  obtain ⟨w, ps, hc, hs⟩ := join_cut 32 s
  rw [parseT_of hc] at h
  unfold parseAct at h
  cases hu : undecAllL ps with
  | none => rw [hu] at h; cases h
  | some l =>
    rw [hu] at h
    simp only at h
    split at h
    · cases h
    rename_i hk
    split at h
    · cases h
    rename_i hl
    injection h with h _
    obtain ⟨h1, h2⟩ := undecAll_iff.1 hu
    obtain ⟨k1, k2, k3⟩ := actOf_word rfl hk
    obtain ⟨_, _, _, g3⟩ := word_fact k2 k3
    have hz : ∀ n ∈ [(0 : Int), 0, 0, 0, 0], I64 n := by
      intro n hn
      simp at hn
      subst hn
      unfold I64; omega
    by_cases h17 : actOfL w = 17
    · have ha : a = ⟨17, [0, 0, 0, 0, 0], l⟩ := by rw [← h]; unfold makeActL; rw [if_pos h17, h17]
      subst ha
      refine ⟨?_, rfl, ?_, Nat.le_refl 17⟩
      · unfold textT
        simp only
        rw [if_neg (by omega), if_pos (by decide), if_pos (by rfl), if_pos (by omega)]
        rw [h17] at k1
        rw [k1, line_join, h2, ← hs]
      · intro n hn
        rcases List.mem_append.1 hn with hn | hn
        · exact hz n hn
        · exact h1 n hn
    · have hlen : l.length = fieldsOf (actOfL w) := by omega
      have ha : a = ⟨actOfL w, (l ++ [0, 0, 0, 0, 0]).take 5, []⟩ := by rw [← h]; unfold makeActL; rw [if_neg h17]
      subst ha
      refine ⟨?_, by simp, ?_, k3⟩
      · unfold textT
        simp only [Int.toNat_natCast]
        have e1 : ((l ++ [0, 0, 0, 0, 0]).take 5).take (fieldsOf (actOfL w)) = l := by rw [List.take_take, Nat.min_eq_left g3, ← hlen, List.take_append_of_le_length (Nat.le_refl _), List.take_length]
        have e2 : (((l ++ [0, 0, 0, 0, 0]).take 5).drop (fieldsOf (actOfL w))).all (· = 0) = true := by
          rw [List.drop_take, ← hlen, List.drop_append_of_le_length (Nat.le_refl _), List.drop_length]
          rw [List.all_eq_true]
          intro n hn
          have := List.mem_of_mem_take hn
          simp at this
          simp [this]
        rw [if_neg (by omega), if_pos e2, if_neg (by omega), if_pos (by rfl), e1, k1, line_join, h2, ← hs]
      · intro n hn
        simp only [List.append_nil] at hn
        rcases List.mem_append.1 (List.mem_of_mem_take hn) with hn | hn
        · exact h1 n hn
        · exact hz n hn
/-! Events. -/
/-- The words of events with their numbers, and whether a token follows. -/
def evWords : List (List UInt8 × Nat × Bool) := [
  ([109, 111, 117, 110, 116, 101, 100], 2, false), ([112, 114, 105, 110, 116, 101, 100], 3, false), ([100, 114, 105, 101, 100], 2, false), ([115, 112, 111, 105, 108, 101, 100], 1, false),
  ([114, 101, 112, 114, 105, 110, 116, 101, 100], 1, false), ([114, 101, 112, 108, 97, 99, 101, 100], 2, false), ([111, 112, 101, 110, 101, 100], 1, false), ([114, 101, 112, 97, 105, 114, 101, 100], 2, false),
  ([105, 110, 115, 112, 101, 99, 116, 101, 100], 3, false), ([99, 117, 116], 3, false), ([98, 101, 103, 117, 110], 1, false), ([114, 117, 110], 3, false),
  ([108, 111, 111, 107, 101, 100], 3, false), ([109, 111, 118, 101, 100], 3, false), ([114, 101, 102, 117, 115, 101, 100], 1, false), ([119, 97, 105, 116, 115], 1, false),
  ([103, 114, 97, 110, 116, 101, 100], 1, false), ([99, 111, 109, 109, 105, 116, 116, 101, 100], 2, false), ([97, 98, 111, 114, 116, 101, 100], 1, false), ([100, 101, 115, 116, 114, 111, 121, 101, 100], 2, false),
  ([100, 114, 97, 119, 110], 1, true), ([97, 117, 100, 105, 116, 101, 100], 2, true), ([115, 97, 118, 101, 100], 1, false), ([99, 104, 101, 99, 107, 101, 100], 1, false),
  ([114, 101, 99, 111, 118, 101, 114, 101, 100], 1, false)]
def evOfL (w : List UInt8) : Nat := (evWords.findIdx? (·.1 == w)).elim 0 (· + 1)
def evWord (k : Nat) : List UInt8 := (evWords.getD (k - 1) ([], 0, false)).1
def evNums (k : Nat) : Nat := (evWords.getD (k - 1) ([], 0, false)).2.1
def evTok (k : Nat) : Bool := (evWords.getD (k - 1) ([], 0, false)).2.2
/-- A token. -/
def isTokL (s : List UInt8) : Bool := s.all (fun c => 33 ≤ c && c ≤ 126) && decide (1 ≤ s.length) && decide (s.length ≤ 64)
structure Ev3 where
  kind : Nat
  f : List Int
  text : List UInt8
deriving Repr, DecidableEq
def evZero : Ev3 := ⟨0, [0, 0, 0], []⟩
/-- The line of an event, and the error. -/
def evTextT (kind : Int) (f : List Int) (text : List UInt8) : List UInt8 × Int :=
  if kind < 1 ∨ kind > 25 then ([], 2)
  else if (f.drop (evNums kind.toNat)).all (· = 0) then
    if evTok kind.toNat then (if isTokL text then (lineT (evWord kind.toNat) (f.take (evNums kind.toNat)) ++ 32 :: text, 0) else ([], 2))
    else if text = [] then (lineT (evWord kind.toNat) (f.take (evNums kind.toNat)), 0) else ([], 2)
  else ([], 2)
def parseEv (k : Nat) (ps : List (List UInt8)) : Ev3 × Int :=
  if k = 0 then (evZero, 4)
  else if evTok k then
    if ps = [] then (evZero, 4)
    else if isTokL (ps.getLastD []) then
      match undecAllL ps.dropLast with
      | none => (evZero, 4)
      | some l => if l.length = evNums k then (⟨k, (l ++ [0, 0, 0]).take 3, ps.getLastD []⟩, 0) else (evZero, 4)
    else (evZero, 4)
  else match undecAllL ps with
    | none => (evZero, 4)
    | some l => if l.length = evNums k then (⟨k, (l ++ [0, 0, 0]).take 3, []⟩, 0) else (evZero, 4)
def parseEvT (s : List UInt8) : Ev3 × Int := parseEv (evOfL ((cutAt 32 s).headD [])) (cutAt 32 s).tail
theorem parseEvT_of {s w : List UInt8} {ps : List (List UInt8)} (h : cutAt 32 s = w :: ps) : parseEvT s = parseEv (evOfL w) ps := by unfold parseEvT; rw [h]; rfl
theorem evs_fact : ∀ i : Fin 25, 32 ∉ evWord (i + 1) ∧ evOfL (evWord (i + 1)) = i + 1 ∧ evNums (i + 1) ≤ 3 := by decide
theorem ev_fact {k : Nat} (h1 : 1 ≤ k) (h2 : k ≤ 25) : 32 ∉ evWord k ∧ evOfL (evWord k) = k ∧ evNums k ≤ 3 := by
  have := evs_fact ⟨k - 1, by omega⟩
  simp only at this
  rw [show k - 1 + 1 = k by omega] at this
  exact this
theorem evOf_word {t : List UInt8} {k : Nat} (h : evOfL t = k) (hk : k ≠ 0) : evWord k = t ∧ 1 ≤ k ∧ k ≤ 25 := by
  unfold evOfL at h
  cases hf : evWords.findIdx? (fun x => x.1 == t) with
  | none => rw [hf] at h; simp at h; omega
  | some i =>
    rw [hf] at h
    simp at h
    obtain ⟨hlt, h1, _⟩ := List.findIdx?_eq_some_iff_getElem.1 hf
    have h25 : evWords.length = 25 := rfl
    refine ⟨?_, by omega, by omega⟩
    unfold evWord
    have e : k - 1 = i := by omega
    rw [e, List.getD_eq_getElem?_getD, List.getElem?_eq_getElem hlt]
    simpa using h1
theorem take_back {l : List Int} {n : Nat} (hn : n ≤ 3) (h : l.length = n) : ((l ++ [0, 0, 0]).take 3).take n = l ∧ (((l ++ [0, 0, 0]).take 3).drop n).all (· = 0) = true := by
  subst h
  constructor
  · rw [List.take_take, Nat.min_eq_left hn, List.take_append_of_le_length (Nat.le_refl _), List.take_length]
  · rw [List.drop_take, List.drop_append_of_le_length (Nat.le_refl _), List.drop_length, List.all_eq_true]
    intro n hn
    have := List.mem_of_mem_take hn
    simp at this
    simp [this]
/-- A line that is parsed is the line of its event. -/
theorem ev_only {s : List UInt8} {v : Ev3} (h : parseEvT s = (v, 0)) : evTextT v.kind v.f v.text = (s, 0) := by
  obtain ⟨w, ps, hc, hs⟩ := join_cut 32 s
  rw [parseEvT_of hc] at h
  unfold parseEv at h
  split at h
  · cases h
  rename_i hk
  obtain ⟨k1, k2, k3⟩ := evOf_word rfl hk
  obtain ⟨_, _, g3⟩ := ev_fact k2 k3
  split at h
  · rename_i ht
    split at h
    · cases h
    rename_i hp
    split at h
    · rename_i hx
      cases hu : undecAllL ps.dropLast with
      | none => rw [hu] at h; cases h
      | some l =>
        rw [hu] at h
        simp only at h
        split at h
        · rename_i hl
          injection h with h _
          subst h
          obtain ⟨h1, h2⟩ := undecAll_iff.1 hu
          obtain ⟨e1, e2⟩ := take_back g3 hl
          unfold evTextT
          simp only [Int.toNat_natCast]
          rw [if_neg (by omega), if_pos e2, if_pos ht, if_pos hx, e1, k1, line_join, h2]
          have hps : ps.dropLast ++ [ps.getLastD []] = ps := by
            rw [List.getLastD_eq_getLast?, List.getLast?_eq_some_getLast hp]
            exact List.dropLast_concat_getLast hp
          rw [hs]
          conv => rhs; rw [← hps]
          simp [joinB]
        · cases h
    · cases h
  · rename_i ht
    cases hu : undecAllL ps with
    | none => rw [hu] at h; cases h
    | some l =>
      rw [hu] at h
      simp only at h
      split at h
      · rename_i hl
        injection h with h _
        subst h
        obtain ⟨h1, h2⟩ := undecAll_iff.1 hu
        obtain ⟨e1, e2⟩ := take_back g3 hl
        unfold evTextT
        simp only [Int.toNat_natCast]
        rw [if_neg (by omega), if_pos e2, if_neg ht, if_pos trivial, e1, k1, line_join, h2, ← hs]
      · cases h
end Go.Proofs.YtddnmocoaahlfaaGreatDoor
