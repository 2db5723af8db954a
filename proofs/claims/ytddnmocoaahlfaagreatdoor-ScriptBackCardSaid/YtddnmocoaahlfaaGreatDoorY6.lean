/-
  The texts of numbers, acts and events in plain Lean. No condition; no program in sight.
  The law's own check of a number, and the reference's number texts: Number writes the decimal text. No condition but that the number is an int.
-/
import Derived.Test.YtddnmocoaahlfaaGreatDoorPlain
import Derived.Lib.AtoiAllCases
import Derived.Test.YtddnmocoaahlfaaGreatDoorBase
import Derived.Lib.ItoaLen
set_option linter.unusedVariables false
set_option linter.unusedSimpArgs false

namespace Go.Proofs.YtddnmocoaahlfaaGreatDoor
open Go.Lib
def I64 (n : Int) : Prop := -9223372036854775808 ≤ n ∧ n ≤ 9223372036854775807
def valFrom (acc : Nat) (l : List UInt8) : Nat := l.foldl (fun n c => 10 * n + (c.toNat - 48)) acc
theorem dig_range {c : UInt8} (h : isDig c = true) : 48 ≤ c.toNat ∧ c.toNat ≤ 57 := by
  unfold isDig at h
  simp only [Bool.and_eq_true, decide_eq_true_eq, UInt8.le_iff_toNat_le] at h
  exact h
theorem valFrom_le : ∀ (l : List UInt8) (acc : Nat), acc ≤ valFrom acc l
  | [], acc => Nat.le_refl _
  | c :: l, acc => by
    have := valFrom_le l (10 * acc + (c.toNat - 48))
    unfold valFrom at *
    rw [List.foldl_cons]
    omega
theorem parse_val : ∀ (l : List UInt8) (acc : Nat), (∀ c ∈ l, isDig c = true) → valFrom acc l < 18446744073709551616 → parseUint10 acc l = .ok (valFrom acc l)
  | [], acc, _, _ => rfl
  | c :: l, acc, hd, hv => by
    have h1 := dig_range (hd c (by simp))
    have e : valFrom acc (c :: l) = valFrom (10 * acc + (c.toNat - 48)) l := rfl
    rw [e] at hv ⊢
    have h2 := valFrom_le l (10 * acc + (c.toNat - 48))
    unfold parseUint10
    rw [if_pos h1, if_neg (by omega), if_neg (by omega), Nat.mul_comm acc 10]
    exact parse_val l _ (fun d hm => hd d (by simp [hm])) hv
theorem mag_dec {u : Nat} (h : u < 18446744073709551616) : parseMag (decDigits u) = .ok u := by
  obtain ⟨h1, h2, c, t, h3, _⟩ := decDigits_facts u
  unfold parseMag
  rw [if_neg (by rw [h3]; simp)]
  have e : valFrom 0 (decDigits u) = u := h2
  rw [parse_val _ _ h1 (by rw [e]; exact h), e]
theorem atoi_itoa {n : Int} (h : I64 n) : atoiAll (itoa n) = .ok n := by
  unfold I64 at h
  unfold itoa
  by_cases hn : n < 0
  · rw [if_pos hn, atoiAll_minus, mag_dec (by omega)]
    simp only [signed]
    rw [if_neg (by omega)]
    congr 1
    omega
  · rw [if_neg hn]
    obtain ⟨h1, h2, c, t, h3, _⟩ := decDigits_facts n.toNat
    have hm := mag_dec (u := n.toNat) (by omega)
    rw [h3] at hm h1 ⊢
    have hc := dig_range (h1 c (by simp))
    rw [atoiAll_plain c t (by omega) (by omega), hm]
    simp only [signless]
    rw [if_neg (by omega)]
    congr 1
    omega
/-- The number of a number text. -/
def undecL (s : List UInt8) : Option Int := match atoiAll s with | .ok v => if itoa v = s then some v else none | _ => none
theorem undec_iff {s : List UInt8} {v : Int} : undecL s = some v ↔ I64 v ∧ itoa v = s := by
  constructor
  · intro h
    unfold undecL at h
    cases ha : atoiAll s with
    | ok u =>
      rw [ha] at h
      simp only at h
      split at h
      · injection h with h
        subst h
        exact ⟨atoiAll_bounds ha, by assumption⟩
      · cases h
    | range => rw [ha] at h; cases h
    | _ => rw [ha] at h; cases h
  · rintro ⟨h, rfl⟩
    unfold undecL
    rw [atoi_itoa h]
    simp
def undecAllL : List (List UInt8) → Option (List Int)
  | [] => some []
  | s :: ss => match undecL s with
    | none => none
    | some n => match undecAllL ss with
      | none => none
      | some l => some (n :: l)
theorem undecAll_iff : ∀ {ss : List (List UInt8)} {l : List Int}, undecAllL ss = some l ↔ (∀ n ∈ l, I64 n) ∧ l.map itoa = ss
  | [], l => by
    unfold undecAllL
    constructor
    · intro h; injection h with h; subst h; exact ⟨(fun n hn => by cases hn), rfl⟩
    · intro h; rw [List.map_eq_nil_iff.1 h.2]
  | s :: ss, l => by
    unfold undecAllL
    constructor
    · intro h
      cases hs : undecL s with
      | none => rw [hs] at h; cases h
      | some n =>
        rw [hs] at h
        cases hr : undecAllL ss with
        | none => rw [hr] at h; cases h
        | some r =>
          rw [hr] at h
          injection h with h
          subst h
          obtain ⟨h1, h2⟩ := undec_iff.1 hs
          obtain ⟨h3, h4⟩ := undecAll_iff.1 hr
          refine ⟨fun m hm => ?_, by rw [List.map_cons, h2, h4]⟩
          rcases List.mem_cons.1 hm with rfl | hm
          · exact h1
          · exact h3 m hm
    · rintro ⟨h1, h2⟩
      cases l with
      | nil => cases h2
      | cons n r =>
        rw [List.map_cons] at h2
        injection h2 with e1 e2
        rw [undec_iff.2 ⟨h1 n (by simp), e1⟩, undecAll_iff.2 ⟨fun m hm => h1 m (by simp [hm]), e2⟩]
/-! Pieces between single bytes, joined again. -/
def joinB (b : UInt8) (w : List UInt8) (ps : List (List UInt8)) : List UInt8 := w ++ ps.flatMap (b :: ·)
theorem cut_join {b : UInt8} : ∀ {ps : List (List UInt8)} {w : List UInt8}, b ∉ w → (∀ p ∈ ps, b ∉ p) → cutAt b (joinB b w ps) = w :: ps
  | [], w, hw, _ => by unfold joinB; simp [cutAt_none hw]
  | p :: ps, w, hw, hp => by
    have e : joinB b w (p :: ps) = w ++ b :: joinB b p ps := by unfold joinB; simp
    rw [e, cutAt_skip hw, cut_join (hp p (by simp)) (fun q hq => hp q (by simp [hq]))]
theorem line_join (w : List UInt8) (l : List Int) : lineT w l = joinB 32 w (l.map itoa) := by unfold lineT joinB; rw [List.flatMap_map]
theorem cut_line {w : List UInt8} (h : 32 ∉ w) (l : List Int) : cutAt 32 (lineT w l) = w :: l.map itoa := by
  rw [line_join]
  refine cut_join h (fun p hp => ?_)
  obtain ⟨n, _, rfl⟩ := List.mem_map.1 hp
  exact (itoa_text.clean n).1
/-! The line of an act, read again. -/
def actZero : Act5 := ⟨0, [0, 0, 0, 0, 0], []⟩
def parseAct (k : Nat) (ps : List (List UInt8)) : Act5 × Int :=
  match undecAllL ps with
  | none => (actZero, 4)
  | some l => if k = 0 then (actZero, 4) else if (k ≠ 17 ∧ l.length ≠ fieldsOf k) ∨ l.length > 16 then (actZero, 4) else (makeActL k l, 0)
def parseT (s : List UInt8) : Act5 × Int := parseAct (actOfL ((cutAt 32 s).headD [])) (cutAt 32 s).tail
theorem parseT_of {s w : List UInt8} {ps : List (List UInt8)} (h : cutAt 32 s = w :: ps) : parseT s = parseAct (actOfL w) ps := by unfold parseT; rw [h]; rfl
theorem take_zeros {f : List Int} (hf : f.length = 5) {n : Nat} (hz : (f.drop n).all (· = 0) = true) : (f.take n ++ [0, 0, 0, 0, 0]).take 5 = f := by
  rcases f with _ | ⟨a, _ | ⟨b, _ | ⟨c, _ | ⟨d, _ | ⟨e, _ | ⟨g, f⟩⟩⟩⟩⟩⟩ <;> simp at hf
  rcases n with _ | _ | _ | _ | _ | n <;> simp_all
/-- An act is recovered from its line. -/
theorem act_back {kind : Int} {f keep : List Int} {t : List UInt8} (hf : f.length = 5) (hi : ∀ n ∈ f ++ keep, I64 n) (h : textT kind f keep = (t, 0)) : parseT t = (⟨kind.toNat, f, keep⟩, 0) := by
  unfold textT at h
  split at h
  · cases h
  rename_i hk
  have h1 : 1 ≤ kind.toNat := by omega
  have h2 : kind.toNat ≤ 17 := by omega
  obtain ⟨⟨g1, _, _, _⟩, _, g2, g3⟩ := word_fact h1 h2
  split at h
  · rename_i hz
    split at h
    · rename_i h17
      split at h
      · rename_i hl
        injection h with h _
        subst h
        have e17 : kind.toNat = 17 := by omega
        rw [e17] at g1 g2 hz ⊢
        rw [parseT_of (cut_line g1 _), g2]
        unfold parseAct
        rw [undecAll_iff.2 ⟨fun n hn => hi n (by simp [hn]), rfl⟩]
        simp only
        rw [if_neg (by decide), if_neg (by rintro (⟨h, _⟩ | h); exact h rfl; omega)]
        have hf0 := take_zeros hf hz
        have e0 : fieldsOf 17 = 0 := by decide
        rw [e0] at hf0
        simp at hf0
        unfold makeActL
        rw [if_pos rfl, hf0]
      · cases h
    · rename_i h17
      split at h
      · rename_i hl
        injection h with h _
        subst h
        have n17 : kind.toNat ≠ 17 := by omega
        rw [parseT_of (cut_line g1 _), g2]
        unfold parseAct
        rw [undecAll_iff.2 ⟨fun n hn => hi n (by simp [List.mem_of_mem_take hn]), rfl⟩]
        simp only
        have hlen : (f.take (fieldsOf kind.toNat)).length = fieldsOf kind.toNat := by rw [List.length_take]; omega
        rw [if_neg (by omega), if_neg (by rintro (⟨_, h⟩ | h) <;> omega)]
        unfold makeActL
        rw [if_neg n17, take_zeros hf hz, List.length_eq_zero_iff.1 hl]
      · cases h
  · cases h
/-! Events. -/
/-- The words of events with their numbers, and whether a token follows. -/
def evWords : List (List UInt8 × Nat × Bool) := [
  ([109, 111, 117, 110, 116, 101, 100], 2, false), ([112, 114, 105, 110, 116, 101, 100], 3, false), ([100, 114, 105, 101, 100], 2, false), ([115, 112, 111, 105, 108, 101, 100], 1, false),
  ([114, 101, 112, 114, 105, 110, 116, 101, 100], 1, false), ([114, 101, 112, 108, 97, 99, 101, 100], 2, false), ([111, 112, 101, 110, 101, 100], 1, false), ([114, 101, 112, 97, 105, 114, 101, 100], 2, false),
  ([105, 110, 115, 112, 101, 99, 116, 101, 100], 3, false), ([99, 117, 116], 3, false), ([98, 101, 103, 117, 110], 1, false), ([114, 117, 110], 3, false),
  ([108, 111, 111, 107, 101, 100], 3, false), ([109, 111, 118, 101, 100], 3, false), ([114, 101, 102, 117, 115, 101, 100], 1, false), ([119, 97, 105, 116, 115], 1, false),
  ([103, 114, 97, 110, 116, 101, 100], 1, false), ([99, 111, 109, 109, 105, 116, 116, 101, 100], 2, false), ([97, 98, 111, 114, 116, 101, 100], 1, false), ([100, 101, 115, 116, 114, 111, 121, 101, 100], 2, false),
  ([100, 114, 97, 119, 110], 1, true), ([97, 117, 100, 105, 116, 101, 100], 2, true), ([115, 97, 118, 101, 100], 1, false), ([99, 104, 101, 99, 107, 101, 100], 1, false),
  ([114, 101, 99, 111, 118, 101, 114, 101, 100], 1, false)]
def evOfL (w : List UInt8) : Nat := (evWords.findIdx? (·.1 == w)).elim 0 (· + 1)
def evWord (k : Nat) : List UInt8 := (evWords.getD (k - 1) ([], 0, false)).1
def evNums (k : Nat) : Nat := (evWords.getD (k - 1) ([], 0, false)).2.1
def evTok (k : Nat) : Bool := (evWords.getD (k - 1) ([], 0, false)).2.2
/-- A token. -/
def isTokL (s : List UInt8) : Bool := s.all (fun c => 33 ≤ c && c ≤ 126) && decide (1 ≤ s.length) && decide (s.length ≤ 64)
structure Ev3 where
  kind : Nat
  f : List Int
  text : List UInt8
deriving Repr, DecidableEq
def evZero : Ev3 := ⟨0, [0, 0, 0], []⟩
/-- The line of an event, and the error. -/
def evTextT (kind : Int) (f : List Int) (text : List UInt8) : List UInt8 × Int :=
  if kind < 1 ∨ kind > 25 then ([], 2)
  else if (f.drop (evNums kind.toNat)).all (· = 0) then
    if evTok kind.toNat then (if isTokL text then (lineT (evWord kind.toNat) (f.take (evNums kind.toNat)) ++ 32 :: text, 0) else ([], 2))
    else if text = [] then (lineT (evWord kind.toNat) (f.take (evNums kind.toNat)), 0) else ([], 2)
  else ([], 2)
def parseEv (k : Nat) (ps : List (List UInt8)) : Ev3 × Int :=
  if k = 0 then (evZero, 4)
  else if evTok k then
    if ps = [] then (evZero, 4)
    else if isTokL (ps.getLastD []) then
      match undecAllL ps.dropLast with
      | none => (evZero, 4)
      | some l => if l.length = evNums k then (⟨k, (l ++ [0, 0, 0]).take 3, ps.getLastD []⟩, 0) else (evZero, 4)
    else (evZero, 4)
  else match undecAllL ps with
    | none => (evZero, 4)
    | some l => if l.length = evNums k then (⟨k, (l ++ [0, 0, 0]).take 3, []⟩, 0) else (evZero, 4)
def parseEvT (s : List UInt8) : Ev3 × Int := parseEv (evOfL ((cutAt 32 s).headD [])) (cutAt 32 s).tail
theorem parseEvT_of {s w : List UInt8} {ps : List (List UInt8)} (h : cutAt 32 s = w :: ps) : parseEvT s = parseEv (evOfL w) ps := by unfold parseEvT; rw [h]; rfl
theorem evs_fact : ∀ i : Fin 25, 32 ∉ evWord (i + 1) ∧ evOfL (evWord (i + 1)) = i + 1 ∧ evNums (i + 1) ≤ 3 := by decide
theorem ev_fact {k : Nat} (h1 : 1 ≤ k) (h2 : k ≤ 25) : 32 ∉ evWord k ∧ evOfL (evWord k) = k ∧ evNums k ≤ 3 := by
  have := evs_fact ⟨k - 1, by omega⟩
  simp only at this
  rw [show k - 1 + 1 = k by omega] at this
  exact this
theorem take_zeros3 {f : List Int} (hf : f.length = 3) {n : Nat} (hz : (f.drop n).all (· = 0) = true) : (f.take n ++ [0, 0, 0]).take 3 = f := by
  rcases f with _ | ⟨a, _ | ⟨b, _ | ⟨c, _ | ⟨g, f⟩⟩⟩⟩ <;> simp at hf
  rcases n with _ | _ | _ | n <;> simp_all
theorem tok_clean {s : List UInt8} (h : isTokL s = true) : 32 ∉ s ∧ 10 ∉ s ∧ s ≠ [] := by
  unfold isTokL at h
  simp only [Bool.and_eq_true, List.all_eq_true, decide_eq_true_eq] at h
  obtain ⟨⟨h1, h2⟩, h3⟩ := h
  refine ⟨fun hm => ?_, fun hm => ?_, fun e => ?_⟩
  · have := (h1 _ hm).1; revert this; decide
  · have := (h1 _ hm).1; revert this; decide
  · rw [e] at h2; simp at h2
theorem cut_line_tok {w t : List UInt8} (h : 32 ∉ w) (ht : 32 ∉ t) (l : List Int) : cutAt 32 (lineT w l ++ 32 :: t) = w :: (l.map itoa ++ [t]) := by
  have e : lineT w l ++ 32 :: t = joinB 32 w (l.map itoa ++ [t]) := by rw [line_join]; unfold joinB; simp
  rw [e]
  refine cut_join h (fun p hp => ?_)
  rcases List.mem_append.1 hp with hp | hp
  · obtain ⟨n, _, rfl⟩ := List.mem_map.1 hp
    exact (itoa_text.clean n).1
  · rw [List.mem_singleton.1 hp]; exact ht
/-- An event is recovered from its line. -/
theorem ev_back {kind : Int} {f : List Int} {x t : List UInt8} (hf : f.length = 3) (hi : ∀ n ∈ f, I64 n) (h : evTextT kind f x = (t, 0)) : parseEvT t = (⟨kind.toNat, f, x⟩, 0) := by
  unfold evTextT at h
  split at h
  · cases h
  rename_i hk
  have h1 : 1 ≤ kind.toNat := by omega
  have h2 : kind.toNat ≤ 25 := by omega
  obtain ⟨g1, g2, g3⟩ := ev_fact h1 h2
  have hlen : (f.take (evNums kind.toNat)).length = evNums kind.toNat := by rw [List.length_take]; omega
  have hu : undecAllL ((f.take (evNums kind.toNat)).map itoa) = some (f.take (evNums kind.toNat)) := undecAll_iff.2 ⟨fun n hn => hi n (List.mem_of_mem_take hn), rfl⟩
  split at h
  · rename_i hz
    split at h
    · rename_i ht
      split at h
      · rename_i hx
        injection h with h _
        subst h
        rw [parseEvT_of (cut_line_tok g1 (tok_clean hx).1 _), g2]
        unfold parseEv
        rw [if_neg (by omega), if_pos ht, if_neg (by simp)]
        simp only [List.getLastD_concat, List.dropLast_concat]
        rw [if_pos hx, hu]
        simp only
        rw [if_pos hlen, take_zeros3 hf hz]
      · cases h
    · rename_i ht
      split at h
      · rename_i hx
        injection h with h _
        subst h
        subst hx
        rw [parseEvT_of (cut_line g1 _), g2]
        unfold parseEv
        rw [if_neg (by omega), if_neg ht, hu]
        simp only
        rw [if_pos hlen, take_zeros3 hf hz]
      · cases h
  · cases h
end Go.Proofs.YtddnmocoaahlfaaGreatDoor
namespace Go.Proofs.YtddnmocoaahlfaaGreatDoor
open Go.RowKit
end Go.Proofs.YtddnmocoaahlfaaGreatDoor
