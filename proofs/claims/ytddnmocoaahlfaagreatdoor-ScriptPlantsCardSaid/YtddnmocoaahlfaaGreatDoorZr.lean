/-
  The reference's reading of number texts in plain Lean: what a number text looks like. No condition; no program in sight.
  Steps for arrays that are written out: built, laid into a new block, in one step each. No condition.
  The written-out arrays of the reference's Named and plantLine, in one step each. No condition.
  The reference's Word, Valid and Text. Conditions: the numbers are ints; the row of numbers lies in memory.
  The reference's Read, Parts, numbers and Kind. Conditions: texts of at most 65536 bytes.
  The reference's numbers and Kind. Conditions: the row of strings lies in memory.
  A whole struct stored into a block of the call's own. No condition.
  The reference's Of. Condition: the row of numbers lies in memory.
  Slices without their first element, whatever their capacity, in one step. No condition.
  The reference's Parse. Condition: lines of at most 65536 bytes.
  undec and undecAll. Conditions: the package-level variables hold what the program lays; texts of at most 65536 bytes.
  The reference's Text. Conditions: the numbers are ints; the row of numbers lies in memory.
  The reference's Named, and both checks of tokens. No condition.
  EventText. Conditions: the package-level variables hold what the program lays; texts of at most 65536 bytes.
  The reference's EventText. Conditions: the numbers are ints; texts of at most 65536 bytes.
-/
import Derived.Test.YtddnmocoaahlfaaGreatDoorTxt
import Derived.Test.YtddnmocoaahlfaaGreatDoorBase
import Derived.Deep.WholeRow
import Derived.Test.YtddnmocoaahlfaaGreatDoorPlt
import Derived.Test.YtddnmocoaahlfaaGreatDoorLine2
import Derived.Test.YtddnmocoaahlfaaGreatDoorNum
import Derived.Test.YtddnmocoaahlfaaGreatDoorSame
import Derived.Deep.DeepCutAuto
import Derived.Test.YtddnmocoaahlfaaGreatDoorLawA
import Derived.Test.YtddnmocoaahlfaaGreatDoorEval
import Derived.Test.YtddnmocoaahlfaaGreatDoorMach
set_option linter.unusedVariables false
set_option linter.unusedSimpArgs false

namespace Go.Proofs.YtddnmocoaahlfaaGreatDoor
open Go.Lib

theorem valFrom_snoc (acc : Nat) (l : List UInt8) (c : UInt8) : valFrom acc (l ++ [c]) = 10 * valFrom acc l + (c.toNat - 48) := by unfold valFrom; simp
/-- What stands behind the sign of a number text. -/
def unsig (s : List UInt8) : List UInt8 := if s.headD 0 = 45 then s.tail else s
theorem undec_shape {s : List UInt8} {v : Int} (h : undecL s = some v) :
    (∀ c ∈ unsig s, isDig c = true) ∧ valFrom 0 (unsig s) = v.natAbs ∧ (s.headD 0 = 45 ↔ v < 0) ∧ s ≠ [] ∧ s.length ≤ 20 ∧ I64 v := by
  obtain ⟨h1, rfl⟩ := undec_iff.1 h
  have hI := h1
  unfold I64 at h1
  unfold itoa unsig
  by_cases hn : v < 0
  · rw [if_pos hn]
    obtain ⟨d1, d2, c, t, d3, d4⟩ := decDigits_facts v.natAbs
    simp only [List.headD_cons, if_true, List.tail_cons]
    have hl := decDigits_len 18 v.natAbs (by omega)
    exact ⟨d1, d2, by simp [hn], by simp, by simp; omega, hI⟩
  · rw [if_neg hn]
    obtain ⟨d1, d2, c, t, d3, d4⟩ := decDigits_facts v.toNat
    have hl := decDigits_len 18 v.toNat (by omega)
    have hc : (decDigits v.toNat).headD 0 ≠ 45 := by
      rw [d3]
      simp only [List.headD_cons]
      intro e
      have := d1 c (by rw [d3]; simp)
      rw [e] at this
      exact absurd this (by decide)
    rw [if_neg hc]
    exact ⟨d1, by rw [show v.natAbs = v.toNat by omega]; exact d2, by simp only [hn, iff_false]; exact hc, by rw [d3]; simp, by omega, hI⟩
theorem dig_ofNat {c : UInt8} (h : isDig c = true) : UInt8.ofNat (48 + (c.toNat - 48)) = c := by
  have := dig_range h
  rw [show 48 + (c.toNat - 48) = c.toNat by omega]
  exact UInt8.ofNat_toNat
/-- Digits without a leading zero are the numeral of their number. -/
theorem dec_num : ∀ (k : Nat) (d : List UInt8), d.length = k → (∀ c ∈ d, isDig c = true) → d ≠ [] → ¬ (d.headD 0 = 48 ∧ 1 < d.length) → decDigits (numOf d) = d ∧ (1 < d.length → 1 ≤ numOf d) ∧ (d.headD 0 ≠ 48 → 1 ≤ numOf d)
  | 0, d, hk, hd, hne, hz => absurd (List.length_eq_zero_iff.1 hk) hne
  | k + 1, d, hk, hd, hne, hz => by
    have e := List.dropLast_concat_getLast hne
    generalize hc : d.getLast hne = c at e
    generalize hi : d.dropLast = i at e
    subst e
    have hdc := hd c (by simp)
    have hr := dig_range hdc
    rw [numOf_snoc]
    by_cases h0 : i = []
    · subst h0
      have : numOf [] = 0 := rfl
      rw [this, Nat.mul_zero, Nat.zero_add, decDigits_small (by omega), dig_ofNat hdc]
      refine ⟨rfl, by simp, ?_⟩
      simp only [List.nil_append, List.headD_cons]
      intro hc0
      have : c.toNat ≠ 48 := fun e => hc0 (UInt8.toNat_inj.1 e)
      omega
    · have hhd : (i ++ [c]).headD 0 = i.headD 0 := by
        cases i with
        | nil => exact absurd rfl h0
        | cons a b => rfl
      have hlen : 1 < (i ++ [c]).length := by have := List.length_pos_iff.2 h0; simp; omega
      rw [hhd] at hz ⊢
      have hz0 : i.headD 0 ≠ 48 := fun e => hz ⟨e, hlen⟩
      obtain ⟨g1, g2, g3⟩ := dec_num k i (by simp at hk; exact hk) (fun x hx => hd x (by simp [hx])) h0 (fun hh => hz0 hh.1)
      have hpos := g3 hz0
      refine ⟨?_, fun _ => by omega, fun _ => by omega⟩
      rw [decDigits_app (by omega), show (10 * numOf i + (c.toNat - 48)) / 10 = numOf i by omega, g1, show (10 * numOf i + (c.toNat - 48)) % 10 = c.toNat - 48 by omega, dig_ofNat hdc]
/-- The numeral of an expression, as a number text. -/
theorem undec_digits {d : List UInt8} (hd : ∀ c ∈ d, isDig c = true) (hne : d ≠ []) :
    if (d.headD 0 = 48 ∧ 1 < d.length) ∨ 9007199254740992 < numOf d then (∀ v, undecL d = some v → 9007199254740992 < v) else undecL d = some (numOf d : Int) := by
  have hu : ∀ v, undecL d = some v → numOf d = v.natAbs ∧ ¬ v < 0 ∧ decDigits v.toNat = d := by
    intro v hv
    obtain ⟨h1, h2, h3, h4, h5, h6⟩ := undec_shape hv
    have hc : d.headD 0 ≠ 45 := by
      obtain ⟨c, t, rfl⟩ := List.exists_cons_of_ne_nil hne
      intro e
      have := hd c (by simp)
      simp only [List.headD_cons] at e
      rw [e] at this
      exact absurd this (by decide)
    have hn : ¬ v < 0 := fun h => hc (h3.2 h)
    unfold unsig at h2
    rw [if_neg hc] at h2
    obtain ⟨_, e⟩ := undec_iff.1 hv
    unfold itoa at e
    rw [if_neg hn] at e
    exact ⟨h2, hn, e⟩
  split
  · rename_i h
    intro v hv
    obtain ⟨h1, h2, h3⟩ := hu v hv
    rcases h with ⟨z1, z2⟩ | h
    · exfalso
      obtain ⟨d1, d2, c, t, d3, d4⟩ := decDigits_facts v.toNat
      rw [h3] at d3
      subst d3
      simp only [List.headD_cons] at z1
      have := (d4 z1).2
      rw [this] at z2
      simp at z2
    · omega
  · rename_i h
    have hz : ¬ (d.headD 0 = 48 ∧ 1 < d.length) := fun hh => h (.inl hh)
    have hle : ¬ 9007199254740992 < numOf d := fun hh => h (.inr hh)
    obtain ⟨g1, _, _⟩ := dec_num _ d rfl hd hne hz
    refine undec_iff.2 ⟨⟨by omega, by omega⟩, ?_⟩
    unfold itoa
    rw [if_neg (by omega), show ((numOf d : Nat) : Int).toNat = numOf d by omega]
    exact g1
/-- The length of a decimal text. -/
theorem itoa_len20 {n : Int} (h : I64 n) : (itoa n).length ≤ 20 := by
  obtain ⟨_, _, _, _, h5, _⟩ := undec_shape (undec_iff.2 ⟨h, rfl⟩)
  exact h5
end Go.Proofs.YtddnmocoaahlfaaGreatDoor

namespace Go.Proofs.YtddnmocoaahlfaaGreatDoor
open Go.RowKit

theorem wpList_val {P : Program} {w w' : World} {ops : Array Oper} {rest : List Oper} {o : Oper} {a : Act} {Q : Exit → Act → World → Prop} (hgd : o.guard = none) (S : Sem Value) (hex : execOp a.eval o = (do pure (.value (← S))))
    (v : Value) (hrun : S.run P w = .ok v w') (h : wpList P ops Q rest (a.put o.dst v) w') : wpList P ops Q (o :: rest) a w := by
  refine wpList_plain hgd fun K hK => ?_
  unfold Oper.wp
  simp only [hex, Sem.run_bind, Sem.run_pure, hrun, Result.andThen_ok]
  exact hK _ _ h
theorem wpList_unit {P : Program} {w w' : World} {ops : Array Oper} {rest : List Oper} {o : Oper} {a : Act} {Q : Exit → Act → World → Prop} (hgd : o.guard = none) (hd : o.dst = none) (S : Sem Unit) (hex : execOp a.eval o = (do S; pure .skip))
    (hrun : S.run P w = .ok () w') (h : wpList P ops Q rest a w') : wpList P ops Q (o :: rest) a w := by
  refine wpList_plain hgd fun K hK => ?_
  unfold Oper.wp
  simp only [hex, Sem.run_bind, Sem.run_pure, hrun, Result.andThen_ok]
  refine hK _ _ ?_
  rw [hd]
  exact h
def aWords : Array Value := #[.string ⟨#[]⟩, .string ⟨#[109, 111, 117, 110, 116]⟩, .string ⟨#[112, 114, 105, 110, 116]⟩, .string ⟨#[116, 105, 99, 107]⟩, .string ⟨#[115, 112, 111, 105, 108]⟩, .string ⟨#[114, 101, 112, 97, 105, 114]⟩, .string ⟨#[105, 110, 115, 112, 101, 99, 116]⟩, .string ⟨#[99, 117, 116]⟩, .string ⟨#[98, 101, 103, 105, 110]⟩, .string ⟨#[108, 111, 111, 107]⟩, .string ⟨#[109, 111, 118, 101]⟩, .string ⟨#[99, 111, 109, 109, 105, 116]⟩, .string ⟨#[97, 98, 111, 114, 116]⟩, .string ⟨#[100, 101, 115, 116, 114, 111, 121]⟩, .string ⟨#[97, 117, 100, 105, 116]⟩, .string ⟨#[115, 97, 118, 101]⟩, .string ⟨#[99, 104, 101, 99, 107]⟩, .string ⟨#[99, 114, 97, 115, 104]⟩]
def aWordsZ : Array Value := #[.string ⟨#[]⟩, .string ⟨#[]⟩, .string ⟨#[]⟩, .string ⟨#[]⟩, .string ⟨#[]⟩, .string ⟨#[]⟩, .string ⟨#[]⟩, .string ⟨#[]⟩, .string ⟨#[]⟩, .string ⟨#[]⟩, .string ⟨#[]⟩, .string ⟨#[]⟩, .string ⟨#[]⟩, .string ⟨#[]⟩, .string ⟨#[]⟩, .string ⟨#[]⟩, .string ⟨#[]⟩, .string ⟨#[]⟩]
theorem aWords_build (w : World) : (Instr.build 165 #[(0, .string ⟨#[]⟩), (1, .string ⟨#[109, 111, 117, 110, 116]⟩), (2, .string ⟨#[112, 114, 105, 110, 116]⟩), (3, .string ⟨#[116, 105, 99, 107]⟩), (4, .string ⟨#[115, 112, 111, 105, 108]⟩), (5, .string ⟨#[114, 101, 112, 97, 105, 114]⟩), (6, .string ⟨#[105, 110, 115, 112, 101, 99, 116]⟩), (7, .string ⟨#[99, 117, 116]⟩), (8, .string ⟨#[98, 101, 103, 105, 110]⟩), (9, .string ⟨#[108, 111, 111, 107]⟩), (10, .string ⟨#[109, 111, 118, 101]⟩), (11, .string ⟨#[99, 111, 109, 109, 105, 116]⟩), (12, .string ⟨#[97, 98, 111, 114, 116]⟩), (13, .string ⟨#[100, 101, 115, 116, 114, 111, 121]⟩), (14, .string ⟨#[97, 117, 100, 105, 116]⟩), (15, .string ⟨#[115, 97, 118, 101]⟩), (16, .string ⟨#[99, 104, 101, 99, 107]⟩), (17, .string ⟨#[99, 114, 97, 115, 104]⟩)]).run Tryz.prog w = .ok (.agg aWords) w := by kernel_rfl
theorem aWords_alloc (w : World) : (Instr.alloc 165 true (.tuple #[])).run Tryz.prog w = .ok (.pointer (some ⟨w.heap.size, 0, none⟩)) (w.alloc (.cells aWordsZ 165)) := by kernel_rfl
theorem aWords_store (w : World) : (Instr.storeAt 165 (.pointer (some ⟨w.heap.size, 0, none⟩)) (.agg aWords)).run Tryz.prog (w.alloc (.cells aWordsZ 165)) = .ok () (w.alloc (.cells aWords 165)) := run_storeAt_new w 165 aWordsZ aWords (by kernel_rfl) rfl (by kernel_rfl)
def aFields : Array Value := #[.int .i64 0, .int .i64 1, .int .i64 2, .int .i64 0, .int .i64 2, .int .i64 2, .int .i64 4, .int .i64 1, .int .i64 0, .int .i64 3, .int .i64 5, .int .i64 1, .int .i64 1, .int .i64 4, .int .i64 3, .int .i64 0, .int .i64 0, .int .i64 0]
def aFieldsZ : Array Value := #[.int .i64 0, .int .i64 0, .int .i64 0, .int .i64 0, .int .i64 0, .int .i64 0, .int .i64 0, .int .i64 0, .int .i64 0, .int .i64 0, .int .i64 0, .int .i64 0, .int .i64 0, .int .i64 0, .int .i64 0, .int .i64 0, .int .i64 0, .int .i64 0]
theorem aFields_build (w : World) : (Instr.build 166 #[(0, .int .i64 0), (1, .int .i64 1), (2, .int .i64 2), (3, .int .i64 0), (4, .int .i64 2), (5, .int .i64 2), (6, .int .i64 4), (7, .int .i64 1), (8, .int .i64 0), (9, .int .i64 3), (10, .int .i64 5), (11, .int .i64 1), (12, .int .i64 1), (13, .int .i64 4), (14, .int .i64 3), (15, .int .i64 0), (16, .int .i64 0), (17, .int .i64 0)]).run Tryz.prog w = .ok (.agg aFields) w := by kernel_rfl
theorem aFields_alloc (w : World) : (Instr.alloc 166 true (.tuple #[])).run Tryz.prog w = .ok (.pointer (some ⟨w.heap.size, 0, none⟩)) (w.alloc (.cells aFieldsZ 166)) := by kernel_rfl
theorem aFields_store (w : World) : (Instr.storeAt 166 (.pointer (some ⟨w.heap.size, 0, none⟩)) (.agg aFields)).run Tryz.prog (w.alloc (.cells aFieldsZ 166)) = .ok () (w.alloc (.cells aFields 166)) := run_storeAt_new w 166 aFieldsZ aFields (by kernel_rfl) rfl (by kernel_rfl)
end Go.Proofs.YtddnmocoaahlfaaGreatDoor

namespace Go.Proofs.YtddnmocoaahlfaaGreatDoor
open Go.RowKit

def eWords : Array Value := #[.string ⟨#[]⟩, .string ⟨#[109, 111, 117, 110, 116, 101, 100]⟩, .string ⟨#[112, 114, 105, 110, 116, 101, 100]⟩, .string ⟨#[100, 114, 105, 101, 100]⟩, .string ⟨#[115, 112, 111, 105, 108, 101, 100]⟩, .string ⟨#[114, 101, 112, 114, 105, 110, 116, 101, 100]⟩, .string ⟨#[114, 101, 112, 108, 97, 99, 101, 100]⟩, .string ⟨#[111, 112, 101, 110, 101, 100]⟩, .string ⟨#[114, 101, 112, 97, 105, 114, 101, 100]⟩, .string ⟨#[105, 110, 115, 112, 101, 99, 116, 101, 100]⟩, .string ⟨#[99, 117, 116]⟩, .string ⟨#[98, 101, 103, 117, 110]⟩, .string ⟨#[114, 117, 110]⟩, .string ⟨#[108, 111, 111, 107, 101, 100]⟩, .string ⟨#[109, 111, 118, 101, 100]⟩, .string ⟨#[114, 101, 102, 117, 115, 101, 100]⟩, .string ⟨#[119, 97, 105, 116, 115]⟩, .string ⟨#[103, 114, 97, 110, 116, 101, 100]⟩, .string ⟨#[99, 111, 109, 109, 105, 116, 116, 101, 100]⟩, .string ⟨#[97, 98, 111, 114, 116, 101, 100]⟩, .string ⟨#[100, 101, 115, 116, 114, 111, 121, 101, 100]⟩, .string ⟨#[100, 114, 97, 119, 110]⟩, .string ⟨#[97, 117, 100, 105, 116, 101, 100]⟩, .string ⟨#[115, 97, 118, 101, 100]⟩, .string ⟨#[99, 104, 101, 99, 107, 101, 100]⟩, .string ⟨#[114, 101, 99, 111, 118, 101, 114, 101, 100]⟩]
def eWordsZ : Array Value := #[.string ⟨#[]⟩, .string ⟨#[]⟩, .string ⟨#[]⟩, .string ⟨#[]⟩, .string ⟨#[]⟩, .string ⟨#[]⟩, .string ⟨#[]⟩, .string ⟨#[]⟩, .string ⟨#[]⟩, .string ⟨#[]⟩, .string ⟨#[]⟩, .string ⟨#[]⟩, .string ⟨#[]⟩, .string ⟨#[]⟩, .string ⟨#[]⟩, .string ⟨#[]⟩, .string ⟨#[]⟩, .string ⟨#[]⟩, .string ⟨#[]⟩, .string ⟨#[]⟩, .string ⟨#[]⟩, .string ⟨#[]⟩, .string ⟨#[]⟩, .string ⟨#[]⟩, .string ⟨#[]⟩, .string ⟨#[]⟩]
theorem eWords_build (w : World) : (Instr.build 187 #[(0, .string ⟨#[]⟩), (1, .string ⟨#[109, 111, 117, 110, 116, 101, 100]⟩), (2, .string ⟨#[112, 114, 105, 110, 116, 101, 100]⟩), (3, .string ⟨#[100, 114, 105, 101, 100]⟩), (4, .string ⟨#[115, 112, 111, 105, 108, 101, 100]⟩), (5, .string ⟨#[114, 101, 112, 114, 105, 110, 116, 101, 100]⟩), (6, .string ⟨#[114, 101, 112, 108, 97, 99, 101, 100]⟩), (7, .string ⟨#[111, 112, 101, 110, 101, 100]⟩), (8, .string ⟨#[114, 101, 112, 97, 105, 114, 101, 100]⟩), (9, .string ⟨#[105, 110, 115, 112, 101, 99, 116, 101, 100]⟩), (10, .string ⟨#[99, 117, 116]⟩), (11, .string ⟨#[98, 101, 103, 117, 110]⟩), (12, .string ⟨#[114, 117, 110]⟩), (13, .string ⟨#[108, 111, 111, 107, 101, 100]⟩), (14, .string ⟨#[109, 111, 118, 101, 100]⟩), (15, .string ⟨#[114, 101, 102, 117, 115, 101, 100]⟩), (16, .string ⟨#[119, 97, 105, 116, 115]⟩), (17, .string ⟨#[103, 114, 97, 110, 116, 101, 100]⟩), (18, .string ⟨#[99, 111, 109, 109, 105, 116, 116, 101, 100]⟩), (19, .string ⟨#[97, 98, 111, 114, 116, 101, 100]⟩), (20, .string ⟨#[100, 101, 115, 116, 114, 111, 121, 101, 100]⟩), (21, .string ⟨#[100, 114, 97, 119, 110]⟩), (22, .string ⟨#[97, 117, 100, 105, 116, 101, 100]⟩), (23, .string ⟨#[115, 97, 118, 101, 100]⟩), (24, .string ⟨#[99, 104, 101, 99, 107, 101, 100]⟩), (25, .string ⟨#[114, 101, 99, 111, 118, 101, 114, 101, 100]⟩)]).run Tryz.prog w = .ok (.agg eWords) w := by kernel_rfl
theorem eWords_alloc (w : World) : (Instr.alloc 187 true (.tuple #[])).run Tryz.prog w = .ok (.pointer (some ⟨w.heap.size, 0, none⟩)) (w.alloc (.cells eWordsZ 187)) := by kernel_rfl
theorem eWords_store (w : World) : (Instr.storeAt 187 (.pointer (some ⟨w.heap.size, 0, none⟩)) (.agg eWords)).run Tryz.prog (w.alloc (.cells eWordsZ 187)) = .ok () (w.alloc (.cells eWords 187)) := run_storeAt_new w 187 eWordsZ eWords (by kernel_rfl) rfl (by kernel_rfl)
def eCounts : Array Value := #[.int .i64 0, .int .i64 2, .int .i64 3, .int .i64 2, .int .i64 1, .int .i64 1, .int .i64 2, .int .i64 1, .int .i64 2, .int .i64 3, .int .i64 3, .int .i64 1, .int .i64 3, .int .i64 3, .int .i64 3, .int .i64 1, .int .i64 1, .int .i64 1, .int .i64 2, .int .i64 1, .int .i64 2, .int .i64 1, .int .i64 2, .int .i64 1, .int .i64 1, .int .i64 1]
def eCountsZ : Array Value := #[.int .i64 0, .int .i64 0, .int .i64 0, .int .i64 0, .int .i64 0, .int .i64 0, .int .i64 0, .int .i64 0, .int .i64 0, .int .i64 0, .int .i64 0, .int .i64 0, .int .i64 0, .int .i64 0, .int .i64 0, .int .i64 0, .int .i64 0, .int .i64 0, .int .i64 0, .int .i64 0, .int .i64 0, .int .i64 0, .int .i64 0, .int .i64 0, .int .i64 0, .int .i64 0]
theorem eCounts_build (w : World) : (Instr.build 188 #[(0, .int .i64 0), (1, .int .i64 2), (2, .int .i64 3), (3, .int .i64 2), (4, .int .i64 1), (5, .int .i64 1), (6, .int .i64 2), (7, .int .i64 1), (8, .int .i64 2), (9, .int .i64 3), (10, .int .i64 3), (11, .int .i64 1), (12, .int .i64 3), (13, .int .i64 3), (14, .int .i64 3), (15, .int .i64 1), (16, .int .i64 1), (17, .int .i64 1), (18, .int .i64 2), (19, .int .i64 1), (20, .int .i64 2), (21, .int .i64 1), (22, .int .i64 2), (23, .int .i64 1), (24, .int .i64 1), (25, .int .i64 1)]).run Tryz.prog w = .ok (.agg eCounts) w := by kernel_rfl
theorem eCounts_alloc (w : World) : (Instr.alloc 188 true (.tuple #[])).run Tryz.prog w = .ok (.pointer (some ⟨w.heap.size, 0, none⟩)) (w.alloc (.cells eCountsZ 188)) := by kernel_rfl
theorem eCounts_store (w : World) : (Instr.storeAt 188 (.pointer (some ⟨w.heap.size, 0, none⟩)) (.agg eCounts)).run Tryz.prog (w.alloc (.cells eCountsZ 188)) = .ok () (w.alloc (.cells eCounts 188)) := run_storeAt_new w 188 eCountsZ eCounts (by kernel_rfl) rfl (by kernel_rfl)
def pWords : Array Value := #[.string ⟨#[]⟩, .string ⟨#[97, 108, 112, 104, 97, 98, 101, 116]⟩, .string ⟨#[108, 101, 110, 103, 116, 104]⟩, .string ⟨#[98, 97, 110, 110, 101, 100]⟩, .string ⟨#[99, 104, 101, 99, 107]⟩, .string ⟨#[108, 97, 121, 111, 117, 116]⟩, .string ⟨#[99, 111, 115, 116, 115]⟩, .string ⟨#[115, 104, 101, 101, 116, 115]⟩, .string ⟨#[112, 114, 101, 115, 115, 101, 115]⟩, .string ⟨#[108, 105, 102, 101]⟩, .string ⟨#[112, 108, 97, 116, 101, 115]⟩, .string ⟨#[100, 114, 121]⟩, .string ⟨#[118, 97, 117, 108, 116, 115]⟩, .string ⟨#[98, 108, 111, 99, 107, 115]⟩]
def pWordsZ : Array Value := #[.string ⟨#[]⟩, .string ⟨#[]⟩, .string ⟨#[]⟩, .string ⟨#[]⟩, .string ⟨#[]⟩, .string ⟨#[]⟩, .string ⟨#[]⟩, .string ⟨#[]⟩, .string ⟨#[]⟩, .string ⟨#[]⟩, .string ⟨#[]⟩, .string ⟨#[]⟩, .string ⟨#[]⟩, .string ⟨#[]⟩]
theorem pWords_build (w : World) : (Instr.build 189 #[(0, .string ⟨#[]⟩), (1, .string ⟨#[97, 108, 112, 104, 97, 98, 101, 116]⟩), (2, .string ⟨#[108, 101, 110, 103, 116, 104]⟩), (3, .string ⟨#[98, 97, 110, 110, 101, 100]⟩), (4, .string ⟨#[99, 104, 101, 99, 107]⟩), (5, .string ⟨#[108, 97, 121, 111, 117, 116]⟩), (6, .string ⟨#[99, 111, 115, 116, 115]⟩), (7, .string ⟨#[115, 104, 101, 101, 116, 115]⟩), (8, .string ⟨#[112, 114, 101, 115, 115, 101, 115]⟩), (9, .string ⟨#[108, 105, 102, 101]⟩), (10, .string ⟨#[112, 108, 97, 116, 101, 115]⟩), (11, .string ⟨#[100, 114, 121]⟩), (12, .string ⟨#[118, 97, 117, 108, 116, 115]⟩), (13, .string ⟨#[98, 108, 111, 99, 107, 115]⟩)]).run Tryz.prog w = .ok (.agg pWords) w := by kernel_rfl
theorem pWords_alloc (w : World) : (Instr.alloc 189 true (.tuple #[])).run Tryz.prog w = .ok (.pointer (some ⟨w.heap.size, 0, none⟩)) (w.alloc (.cells pWordsZ 189)) := by kernel_rfl
theorem pWords_store (w : World) : (Instr.storeAt 189 (.pointer (some ⟨w.heap.size, 0, none⟩)) (.agg pWords)).run Tryz.prog (w.alloc (.cells pWordsZ 189)) = .ok () (w.alloc (.cells pWords 189)) := run_storeAt_new w 189 pWordsZ pWords (by kernel_rfl) rfl (by kernel_rfl)
def pCounts : Array Value := #[.int .i64 0, .int .i64 0, .int .i64 1, .int .i64 0, .int .i64 1, .int .i64 5, .int .i64 3, .int .i64 1, .int .i64 1, .int .i64 1, .int .i64 1, .int .i64 1, .int .i64 1, .int .i64 1]
def pCountsZ : Array Value := #[.int .i64 0, .int .i64 0, .int .i64 0, .int .i64 0, .int .i64 0, .int .i64 0, .int .i64 0, .int .i64 0, .int .i64 0, .int .i64 0, .int .i64 0, .int .i64 0, .int .i64 0, .int .i64 0]
theorem pCounts_build (w : World) : (Instr.build 190 #[(0, .int .i64 0), (1, .int .i64 0), (2, .int .i64 1), (3, .int .i64 0), (4, .int .i64 1), (5, .int .i64 5), (6, .int .i64 3), (7, .int .i64 1), (8, .int .i64 1), (9, .int .i64 1), (10, .int .i64 1), (11, .int .i64 1), (12, .int .i64 1), (13, .int .i64 1)]).run Tryz.prog w = .ok (.agg pCounts) w := by kernel_rfl
theorem pCounts_alloc (w : World) : (Instr.alloc 190 true (.tuple #[])).run Tryz.prog w = .ok (.pointer (some ⟨w.heap.size, 0, none⟩)) (w.alloc (.cells pCountsZ 190)) := by kernel_rfl
theorem pCounts_store (w : World) : (Instr.storeAt 190 (.pointer (some ⟨w.heap.size, 0, none⟩)) (.agg pCounts)).run Tryz.prog (w.alloc (.cells pCountsZ 190)) = .ok () (w.alloc (.cells pCounts 190)) := run_storeAt_new w 190 pCountsZ pCounts (by kernel_rfl) rfl (by kernel_rfl)
theorem eWords_get : ∀ i, i < 26 → eWords[i]? = some (.string ⟨(if i = 0 then [] else evWord i).toArray⟩) := by
  intro i hi
  match i, hi with
  | 0, _ => rfl
  | 1, _ => rfl
  | 2, _ => rfl
  | 3, _ => rfl
  | 4, _ => rfl
  | 5, _ => rfl
  | 6, _ => rfl
  | 7, _ => rfl
  | 8, _ => rfl
  | 9, _ => rfl
  | 10, _ => rfl
  | 11, _ => rfl
  | 12, _ => rfl
  | 13, _ => rfl
  | 14, _ => rfl
  | 15, _ => rfl
  | 16, _ => rfl
  | 17, _ => rfl
  | 18, _ => rfl
  | 19, _ => rfl
  | 20, _ => rfl
  | 21, _ => rfl
  | 22, _ => rfl
  | 23, _ => rfl
  | 24, _ => rfl
  | 25, _ => rfl
  | n + 26, h => exact absurd h (by omega)
theorem eCounts_get : ∀ i, i < 26 → eCounts[i]? = some (.int .i64 ((if i = 0 then 0 else evNums i : Nat) : Int)) := by
  intro i hi
  match i, hi with
  | 0, _ => rfl
  | 1, _ => rfl
  | 2, _ => rfl
  | 3, _ => rfl
  | 4, _ => rfl
  | 5, _ => rfl
  | 6, _ => rfl
  | 7, _ => rfl
  | 8, _ => rfl
  | 9, _ => rfl
  | 10, _ => rfl
  | 11, _ => rfl
  | 12, _ => rfl
  | 13, _ => rfl
  | 14, _ => rfl
  | 15, _ => rfl
  | 16, _ => rfl
  | 17, _ => rfl
  | 18, _ => rfl
  | 19, _ => rfl
  | 20, _ => rfl
  | 21, _ => rfl
  | 22, _ => rfl
  | 23, _ => rfl
  | 24, _ => rfl
  | 25, _ => rfl
  | n + 26, h => exact absurd h (by omega)
theorem pWords_get : ∀ i, i < 14 → pWords[i]? = some (.string ⟨(if i = 0 then [] else plWords.getD (i - 1) []).toArray⟩) := by
  intro i hi
  match i, hi with
  | 0, _ => rfl
  | 1, _ => rfl
  | 2, _ => rfl
  | 3, _ => rfl
  | 4, _ => rfl
  | 5, _ => rfl
  | 6, _ => rfl
  | 7, _ => rfl
  | 8, _ => rfl
  | 9, _ => rfl
  | 10, _ => rfl
  | 11, _ => rfl
  | 12, _ => rfl
  | 13, _ => rfl
  | n + 14, h => exact absurd h (by omega)
end Go.Proofs.YtddnmocoaahlfaaGreatDoor

namespace Go.Proofs.YtddnmocoaahlfaaGreatDoor
open Go.RowKit Go.Shelf

/-- The word of a kind, and how many fields it has. -/
def refWord (k : Int) : List UInt8 × Nat := if k < 1 ∨ k > 17 then ([], 0) else (wordOf k.toNat, fieldsOf k.toNat)
theorem ws_get : ∀ i, i < 18 → aWords[i]? = some (.string ⟨(if i = 0 then [] else wordOf i).toArray⟩) := by
  intro i hi
  match i, hi with
  | 0, _ => rfl
  | 1, _ => rfl
  | 2, _ => rfl
  | 3, _ => rfl
  | 4, _ => rfl
  | 5, _ => rfl
  | 6, _ => rfl
  | 7, _ => rfl
  | 8, _ => rfl
  | 9, _ => rfl
  | 10, _ => rfl
  | 11, _ => rfl
  | 12, _ => rfl
  | 13, _ => rfl
  | 14, _ => rfl
  | 15, _ => rfl
  | 16, _ => rfl
  | 17, _ => rfl
  | n + 18, h => exact absurd h (by omega)
theorem fs_get : ∀ i, i < 18 → aFields[i]? = some (.int .i64 ((if i = 0 then 0 else fieldsOf i : Nat) : Int)) := by
  intro i hi
  match i, hi with
  | 0, _ => rfl
  | 1, _ => rfl
  | 2, _ => rfl
  | 3, _ => rfl
  | 4, _ => rfl
  | 5, _ => rfl
  | 6, _ => rfl
  | 7, _ => rfl
  | 8, _ => rfl
  | 9, _ => rfl
  | 10, _ => rfl
  | 11, _ => rfl
  | 12, _ => rfl
  | 13, _ => rfl
  | 14, _ => rfl
  | 15, _ => rfl
  | 16, _ => rfl
  | 17, _ => rfl
  | n + 18, h => exact absurd h (by omega)
set_option maxRecDepth 100000 in
set_option maxHeartbeats 4000000 in
theorem word_any (k : Int) (w : World) : Calls Tryz.prog 56 #[.int .i64 k] w (fun e w' => Below w.heap.size w w' ∧ ∃ s : ByteArray, e = .returned (.tuple #[.string s, .int .i64 (refWord k).2]) ∧ txt s = (refWord k).1) := by
  obtain ⟨w2, hw2⟩ : ∃ w2, w2 = (w.alloc (.cells aWords 165)).alloc (.cells aFields 166) := ⟨_, rfl⟩
  have l2 : Below w.heap.size w w2 := by rw [hw2]; exact ((Below.refl _ _).alloc (Nat.le_refl _) _).alloc (by simp) _
  have L2 := Lib.hid l2
  have z1 : (w.alloc (.cells aWords 165)).heap.size = w.heap.size + 1 := by simp
  have c1 : ∀ n, n < 18 → n ≠ 0 → w2.cell? ⟨w.heap.size, n, none⟩ = some (.string ⟨(wordOf n).toArray⟩) := fun n hn1 hn0 => by
    rw [hw2, ((Blk.new w _ _).alloc _).cell n, ws_get n hn1, if_neg hn0]
  have c2 : ∀ n, n < 18 → n ≠ 0 → w2.cell? ⟨w.heap.size + 1, n, none⟩ = some (.int .i64 (fieldsOf n)) := fun n hn1 hn0 => by
    have h := (Blk.new (w.alloc (.cells aWords 165)) aFields 166).cell n
    rw [z1] at h
    rw [hw2, h, fs_get n hn1, if_neg hn0]
  have C1 := Lib.hid c1
  have C2 := Lib.hid c2
  have HW := Lib.hid hw2
  obtain ⟨wd, hwd⟩ : ∃ wd, wd = (refWord k).1 := ⟨_, rfl⟩
  obtain ⟨fs, hfs⟩ : ∃ fs, fs = (refWord k).2 := ⟨_, rfl⟩
  rw [← hwd, ← hfs]
  have HWD := Lib.hid hwd
  have HFS := Lib.hid hfs
  clear l2 hw2 z1 c1 c2 hwd hfs
  go_enter Tryz.func56, Tryz.ntmps56
  go_upto_region 3 with (first | (refine wpList_val (o := ⟨some 6, _, _, _, _, _⟩) rfl (Instr.build 165 _) rfl _ (aWords_build _) ?_) | (refine wpList_val (o := ⟨some 4, _, _, _, _, _⟩) rfl (Instr.alloc 165 true (.tuple #[])) rfl _ (aWords_alloc _) ?_) | (refine wpList_unit (o := ⟨none, Op.store 165 _ _, _, _, _, _⟩) rfl rfl (Instr.storeAt 165 _ _) rfl (aWords_store _) ?_) | (refine wpList_val (o := ⟨some 7, _, _, _, _, _⟩) rfl (Instr.build 166 _) rfl _ (aFields_build _) ?_) | (refine wpList_val (o := ⟨some 5, _, _, _, _, _⟩) rfl (Instr.alloc 166 true (.tuple #[])) rfl _ (aFields_alloc _) ?_) | (refine wpList_unit (o := ⟨none, Op.store 166 _ _, _, _, _, _⟩) rfl rfl (Instr.storeAt 166 _ _) rfl (aFields_store _) ?_))
  rw [← HW.out]
  clear HW
  by_cases h1 : k < 1
  · have hr : refWord k = ([], 0) := by unfold refWord; rw [if_pos (.inl h1)]
    rw [hr] at HWD HFS
    have d1 : decide (k < 1) = true := decide_eq_true h1
    have e2 : fs = 0 := HFS.out
    have e3 : [] = wd := HWD.out.symm
    subst e2
    clear hr h1
    go_wp2_with fail
    go_ret2
    exact ⟨L2.out, _, rfl, by rw [← e3]⟩
  have d1 : decide (k < 1) = false := decide_eq_false h1
  by_cases h2 : k > 17
  · have hr : refWord k = ([], 0) := by unfold refWord; rw [if_pos (.inr h2)]
    rw [hr] at HWD HFS
    have d2 : decide (17 < k) = true := decide_eq_true h2
    have e2 : fs = 0 := HFS.out
    have e3 : [] = wd := HWD.out.symm
    subst e2
    clear hr h1 h2
    go_wp2_with fail
    go_ret2
    exact ⟨L2.out, _, rfl, by rw [← e3]⟩
  have d2 : decide (17 < k) = false := decide_eq_false h2
  obtain ⟨n, rfl⟩ : ∃ n : Nat, k = n := ⟨k.toNat, by omega⟩
  have hr : refWord n = (wordOf n, fieldsOf n) := by unfold refWord; rw [if_neg (by omega)]; rfl
  rw [hr] at HWD HFS
  have hn0 : n ≠ 0 := by omega
  have hn1 : n < 18 := by omega
  have c1 := C1.out n hn1 hn0
  have c2 := C2.out n hn1 hn0
  have hf : fs = fieldsOf n := HFS.out
  have hw : wd = wordOf n := HWD.out
  rw [← hf] at c2
  rw [← hw] at c1
  clear hr hn0 C1 C2 HWD HFS hf hw
  go_wp2_with fail
  go_quiet (fail)
  go_wp2_with fail
  go_ret2
  exact ⟨L2.out.trans ((drewN_below w2 _).mono L2.out.size), _, rfl, rfl⟩

theorem refWord_le (k : Int) : (refWord k).2 ≤ 5 ∧ (refWord k).1.length ≤ 64 := by
  unfold refWord
  split
  · exact ⟨Nat.zero_le _, Nat.zero_le _⟩
  · rename_i h
    obtain ⟨j, hj, e⟩ : ∃ j, j < 17 ∧ k.toNat = j + 1 := ⟨k.toNat - 1, by omega, by omega⟩
    rw [e]
    simp only
    rw [word_get hj, fields_get hj]
    exact ⟨acts_le j hj, word_len j hj⟩
/-- When an act is valid, by its word. -/
theorem text_valid (k : Int) {f keep : List Int} (hf : f.length = 5) : ((textT k f keep).2 = 0) ↔ ((f.drop (refWord k).2).all (· = 0) = true ∧ (refWord k).1 ≠ [] ∧ (keep.length = 0 ∨ ((refWord k).1 = [99, 114, 97, 115, 104] ∧ keep.length ≤ 16))) := by
  unfold textT refWord
  by_cases hk : k < 1 ∨ k > 17
  · rw [if_pos hk, if_pos hk]; simp
  · rw [if_neg hk, if_neg hk]
    simp only
    obtain ⟨⟨_, _, w3, _⟩, _, w10, _⟩ := word_fact (k := k.toNat) (by omega) (by omega)
    have hcr : wordOf k.toNat = [99, 114, 97, 115, 104] ↔ k = 17 := by
      constructor
      · intro h
        rw [h] at w10
        have : actOfL [99, 114, 97, 115, 104] = 17 := by decide
        omega
      · rintro rfl; rfl
    by_cases hz : (f.drop (fieldsOf k.toNat)).all (· = 0) = true
    · rw [if_pos hz]
      by_cases h17 : k = 17
      · rw [if_pos h17]
        by_cases hl : keep.length ≤ 16
        · rw [if_pos hl]; simp only [true_iff]; exact ⟨hz, w3, .inr ⟨hcr.2 h17, hl⟩⟩
        · rw [if_neg hl]
          constructor
          · intro h; cases h
          · rintro ⟨_, _, h | ⟨_, h⟩⟩ <;> omega
      · rw [if_neg h17]
        by_cases hl : keep.length = 0
        · rw [if_pos hl]; simp only [true_iff]; exact ⟨hz, w3, .inl hl⟩
        · rw [if_neg hl]
          constructor
          · intro h; cases h
          · rintro ⟨_, _, h | ⟨h, _⟩⟩
            · exact absurd h hl
            · exact absurd (hcr.1 h) h17
    · rw [if_neg hz]
      constructor
      · intro h; cases h
      · intro h; exact absurd h.1 hz
theorem text_bad {k : Int} {f keep : List Int} (h : (textT k f keep).2 ≠ 0) : textT k f keep = ([], 2) := by
  unfold textT at *
  split
  · rfl
  · rename_i h1
    rw [if_neg h1] at h
    split
    · rename_i h2
      rw [if_pos h2] at h
      split
      · rename_i h3
        rw [if_pos h3] at h
        split
        · rename_i h4; rw [if_pos h4] at h; exact absurd rfl h
        · rfl
      · rename_i h3
        rw [if_neg h3] at h
        split
        · rename_i h4; rw [if_pos h4] at h; exact absurd rfl h
        · rfl
    · rfl
theorem text_good {k : Int} {f keep : List Int} (hf : f.length = 5) (h : (textT k f keep).2 = 0) : textT k f keep = (lineT (refWord k).1 (f.take (refWord k).2 ++ keep), 0) ∧ keep.length ≤ 16 := by
  unfold textT at *
  unfold refWord
  split at h
  · cases h
  rename_i hk
  rw [if_neg hk, if_neg hk]
  split at h
  · rename_i hz
    rw [if_pos hz]
    split at h
    · rename_i h17
      rw [if_pos h17]
      split at h
      · rename_i hl
        rw [if_pos hl]
        subst h17
        exact ⟨rfl, hl⟩
      · cases h
    · rename_i h17
      rw [if_neg h17]
      split at h
      · rename_i hl
        rw [if_pos hl, List.length_eq_zero_iff.1 hl, List.append_nil]
        exact ⟨rfl, by simp⟩
      · cases h
  · cases h
set_option maxRecDepth 100000 in
set_option maxHeartbeats 8000000 in
theorem valid_any {w : World} {k a b c d e : Int} {kv : Value} {kp : List Int} (hkv : NRow w kv kp) (hm : kp.length ≤ maxLen) : Calls Tryz.prog 55 #[actV k a b c d e kv] w (fun ex w' => Below w.heap.size w w' ∧ ex = .returned (.bool (decide ((textT k [a, b, c, d, e] kp).2 = 0)))) := by
  obtain ⟨p1, cc, rfl⟩ := hkv.form
  have hm' : kp.length ≤ 9223372036854775807 := by unfold maxLen at hm; omega
  obtain ⟨w1, hw1⟩ : ∃ w1, w1 = w.alloc (.cells #[.int .i64 k, .int .i64 a, .int .i64 b, .int .i64 c, .int .i64 d, .int .i64 e, .slice p1 kp.length cc] 24) := ⟨_, rfl⟩
  have l1 : Below w.heap.size w w1 := by rw [hw1]; exact (Below.refl _ _).alloc (Nat.le_refl _) _
  have bR : Blk w1 w.heap.size #[.int .i64 k, .int .i64 a, .int .i64 b, .int .i64 c, .int .i64 d, .int .i64 e, .slice p1 kp.length cc] 24 := by rw [hw1]; exact Blk.new w _ _
  obtain ⟨f, hf⟩ : ∃ f : List Int, f = [a, b, c, d, e] := ⟨_, rfl⟩
  have hfl : f.length = 5 := by rw [hf]; rfl
  have hcf : ∀ i (h : i < f.length), (#[.int .i64 a, .int .i64 b, .int .i64 c, .int .i64 d, .int .i64 e] : Array Value)[i]? = some (.int .i64 f[i]) := fun i h => by
    have h5 : i < 5 := by omega
    subst hf
    match i, h5 with
    | 0, _ => rfl
    | 1, _ => rfl
    | 2, _ => rfl
    | 3, _ => rfl
    | 4, _ => rfl
  have htv := text_valid k (keep := kp) hfl
  rw [← hf]
  have HW := Lib.hid hw1
  have HWD := Lib.hid (word_any k w1)
  have hn5 := (refWord_le k).1
  generalize hwd : (refWord k).1 = wd at *
  generalize hnn : (refWord k).2 = n at *
  have HTV := Lib.hid htv
  have HCF := Lib.hid hcf
  have HFL := Lib.hid hfl
  obtain ⟨r, hr⟩ : ∃ r, r = decide ((textT k f kp).2 = 0) := ⟨_, rfl⟩
  rw [← hr]
  have HR := Lib.hid hr
  clear hkv hw1 htv hcf hwd hnn hf hr
  go_enter Tryz.func55, Tryz.ntmps55
  go_wp2_with fail
  rw [← HW.out]
  refine HWD.out.mono ?_
  rintro ex w2 ⟨b2, sw, rfl, hsw⟩
  have l2 := l1.trans (b2.mono l1.size)
  have HB2 := Lib.hid (bR.below b2)
  have s0 : w2.cell? ⟨w.heap.size, 0, none⟩ = some (.int .i64 k) := (HB2.out.cell 0).trans rfl
  have s1 : w2.cell? ⟨w.heap.size, 1, none⟩ = some (.int .i64 a) := (HB2.out.cell 1).trans rfl
  have s2 : w2.cell? ⟨w.heap.size, 2, none⟩ = some (.int .i64 b) := (HB2.out.cell 2).trans rfl
  have s3 : w2.cell? ⟨w.heap.size, 3, none⟩ = some (.int .i64 c) := (HB2.out.cell 3).trans rfl
  have s4 : w2.cell? ⟨w.heap.size, 4, none⟩ = some (.int .i64 d) := (HB2.out.cell 4).trans rfl
  have s5 : w2.cell? ⟨w.heap.size, 5, none⟩ = some (.int .i64 e) := (HB2.out.cell 5).trans rfl
  have s6 : w2.cell? ⟨w.heap.size, 6, none⟩ = some (.slice p1 kp.length cc) := (HB2.out.cell 6).trans rfl
  have HFD := Lib.hid (fields_any (w := w2) (k := k) (a := a) (b := b) (c := c) (d := d) (e := e) ⟨p1, kp.length, cc, rfl⟩)
  have HS := Lib.hid hsw
  clear hsw bR HWD HW
  go_wp2_with fail
  refine HFD.out.mono ?_
  rintro ex w3 ⟨rfl, b3⟩
  clear s0 s1 s2 s3 s4 s5
  have l3 := l2.trans (b3.mono l2.size)
  obtain ⟨w4, hw4⟩ : ∃ w4, w4 = w3.alloc (.cells #[.int .i64 a, .int .i64 b, .int .i64 c, .int .i64 d, .int .i64 e] 90) := ⟨_, rfl⟩
  have b4 : Blk w4 w3.heap.size #[.int .i64 a, .int .i64 b, .int .i64 c, .int .i64 d, .int .i64 e] 90 := by rw [hw4]; exact Blk.new w3 _ _
  have l34 : Below w3.heap.size w3 w4 := by rw [hw4]; exact (Below.refl _ _).alloc (Nat.le_refl _) _
  have c6 : w4.cell? ⟨w.heap.size, 6, none⟩ = some (.slice p1 kp.length cc) := ((Blk.below (Blk.below HB2.out b3) l34).cell 6).trans rfl
  have l4 := l3.trans (l34.mono l3.size)
  have hc4 : ∀ i (h : i < f.length), w4.cell? ⟨w3.heap.size, i, none⟩ = some (.int .i64 f[i]) := fun i h => by rw [b4.cell i]; exact HCF.out i h
  have HC4 := Lib.hid hc4
  have H4 := Lib.hid hw4
  clear hc4 b4 hw4 HFD HCF s6
  go_wp2_with fail
  rw [← H4.out]
  go_loop [6] (fun t => ∃ i : Nat, t = .int .i64 i ∧ n ≤ i ∧ i ≤ 5 ∧ ∀ q (hq : q < f.length), n ≤ q → q < i → f[q] = 0) (fun t => 5 - (intOf t).toNat)
  case atStart => exact ⟨n, rfl, Nat.le_refl _, hn5, fun q hq h1 h2 => by omega⟩
  case round =>
    obtain ⟨i, rfl, hni, hi, hz⟩ := hrel
    have HZ := Lib.hid hz
    clear hz
    by_cases hlt : i < 5
    · have hqi : i < f.length := by have := HFL.out; omega
      have hci := HC4.out i hqi
      have HX := Lib.hid (drop_not hqi hni)
      have HQ := Lib.hid (show ∀ x, x = f[i] → x = 0 → ∀ q (hq : q < f.length), n ≤ q → q < i + 1 → f[q] = 0 from fun x hx h0 q hq h1 h2 => by
        by_cases e : q = i
        · subst e; rw [← hx]; exact h0
        · exact HZ.out q hq h1 (by omega))
      obtain ⟨x, hx⟩ : ∃ x, x = f[i] := ⟨_, rfl⟩
      rw [← hx] at hci HX
      have HXE := Lib.hid hx
      clear hx
      by_cases h0 : x = 0
      · have d0 : (x != 0) = false := by simp [h0]
        have H0 := Lib.hid h0
        clear h0
        go_wp2_with fail
        go_round
        case rel => exact ⟨i + 1, by go_num, by omega, by omega, HQ.out x HXE.out H0.out⟩
        case measure => simp [intOf]; omega
      · have d0 : (x != 0) = true := by simp [h0]
        have hr : r = false := by
          rw [HR.out]
          exact decide_eq_false fun h => by
            have := (HTV.out.1 h).1
            rw [HX.out h0] at this
            cases this
        subst hr
        clear h0
        go_wp2_with fail
        go_ret
        exact ⟨l4, rfl⟩
    · have hi5 : i = 5 := by omega
      have hall : (f.drop n).all (· = 0) = true := drop_all HFL.out (fun q hq h => HZ.out q hq h (by have := HFL.out; omega))
      have hiff : (textT k f kp).2 = 0 ↔ wd ≠ [] ∧ (kp.length = 0 ∨ (wd = [99, 114, 97, 115, 104] ∧ kp.length ≤ 16)) := by
        rw [HTV.out]
        constructor
        · rintro ⟨_, h⟩; exact h
        · intro h; exact ⟨hall, h⟩
      have HI := Lib.hid hiff
      clear hall hiff HZ HC4
      by_cases he : wd = []
      · have d1 : (sw.toList == []) = true := by rw [lit_str']; exact decide_eq_true (HS.out.trans he)
        have hr : r = false := by rw [HR.out]; exact decide_eq_false fun h => (HI.out.1 h).1 he
        subst hr
        clear he
        go_wp2_with fail
        go_ret
        exact ⟨l4, rfl⟩
      have d1 : (sw.toList == []) = false := by rw [lit_str', HS.out]; exact decide_eq_false he
      by_cases hl : kp.length = 0
      · have d2 : ((kp.length : Int) == 0) = true := by simp [hl]
        have hr : r = true := by rw [HR.out]; exact decide_eq_true (HI.out.2 ⟨he, .inl hl⟩)
        subst hr
        clear he hl
        go_wp2_with fail
        go_ret
        exact ⟨l4, rfl⟩
      have d2 : ((kp.length : Int) == 0) = false := by simp; intro h; exact hl (by rw [h]; rfl)
      by_cases hc : wd = [99, 114, 97, 115, 104]
      · have d3 : (sw.toList == [99, 114, 97, 115, 104]) = true := by rw [lit_str']; exact decide_eq_true (HS.out.trans hc)
        by_cases h16 : kp.length ≤ 16
        · have d4 : decide ((kp.length : Int) ≤ 16) = true := decide_eq_true (by omega)
          have hr : r = true := by rw [HR.out]; exact decide_eq_true (HI.out.2 ⟨he, .inr ⟨hc, h16⟩⟩)
          subst hr
          clear he hl hc
          go_wp2_with fail
          go_ret
          exact ⟨l4, rfl⟩
        · have d4 : decide ((kp.length : Int) ≤ 16) = false := decide_eq_false (by omega)
          have hr : r = false := by rw [HR.out]; exact decide_eq_false fun h => by rcases (HI.out.1 h).2 with h | ⟨_, h⟩ <;> omega
          subst hr
          clear he hl hc
          go_wp2_with fail
          go_ret
          exact ⟨l4, rfl⟩
      · have d3 : (sw.toList == [99, 114, 97, 115, 104]) = false := by rw [lit_str', HS.out]; exact decide_eq_false hc
        have hr : r = false := by
          rw [HR.out]
          refine decide_eq_false fun h => ?_
          rcases (HI.out.1 h).2 with h | ⟨h, _⟩
          · exact hl h
          · exact hc h
        subst hr
        clear he hl hc
        go_wp2_with fail
        go_ret
        exact ⟨l4, rfl⟩
end Go.Proofs.YtddnmocoaahlfaaGreatDoor

namespace Go.Proofs.YtddnmocoaahlfaaGreatDoor
open Go.RowKit Go.Shelf

theorem txt_inj' {a b : ByteArray} (h : txt a = txt b) : a = b := by
  cases a; cases b
  simp only [txt] at h
  congr 1
  exact Array.toList_inj.1 h
/-- What a text says of itself as a number. -/
structure RdOk (l : List UInt8) (x : Int) (b : Bool) : Prop where
  int : I64 x
  some : b = (undecL l).isSome
  val : ∀ v, undecL l = .some v → x = v
theorem rd_none {l : List UInt8} (h : undecL l = none) : RdOk l 0 false := ⟨⟨by omega, by omega⟩, by rw [h]; rfl, fun v hv => by rw [h] at hv; cases hv⟩
theorem undec_none_of {l : List UInt8} (h : ∀ v, undecL l = some v → False) : undecL l = none := by
  cases hu : undecL l with
  | none => rfl
  | some v => exact (h v hu).elim
theorem rd_fin {l : List UInt8} {x : Int} (hx : I64 x) (h : ∀ v, undecL l = some v → x = v) : RdOk l x (decide (Lib.itoa x = l)) := by
  refine ⟨hx, ?_, h⟩
  by_cases he : Lib.itoa x = l
  · rw [undec_iff.2 ⟨hx, he⟩]; simp [he]
  · have : undecL l = none := undec_none_of fun v hv => he (by rw [h v hv]; exact (undec_iff.1 hv).2)
    rw [this]; simp [he]
theorem wrap_i64 (n : Int) : I64 (wrap64 n) := by unfold I64 wrap64; omega
theorem wrap_in {n : Int} (h : I64 n) : wrap64 n = n := by unfold I64 at h; unfold wrap64; omega
/-- What the loop of Read keeps: the digits behind the sign up to a place. -/
structure RdAt (l : List UInt8) (fr i : Nat) (n : Int) : Prop where
  int : I64 n
  dig : ∀ c ∈ (l.take i).drop fr, isDig c = true
  val : valFrom 0 ((l.take i).drop fr) ≤ 9223372036854775808 → n = -(valFrom 0 ((l.take i).drop fr) : Nat)
theorem take_drop_snoc {l : List UInt8} {fr i : Nat} (hf : fr ≤ i) (hi : i < l.length) : (l.take (i + 1)).drop fr = (l.take i).drop fr ++ [l[i]] := by
  rw [List.take_succ_eq_append_getElem hi, List.drop_append_of_le_length (by rw [List.length_take]; omega)]
theorem RdAt.next {l : List UInt8} {fr i : Nat} {n : Int} (h : RdAt l fr i n) (hf : fr ≤ i) (hi : i < l.length) {c : UInt8} (hc : c = l[i]) (hd : isDig c = true) : RdAt l fr (i + 1) (wrap64 (wrap64 (10 * n) - ((c.toNat : Int) - 48))) := by
  have hr := dig_range hd
  refine ⟨wrap_i64 _, ?_, ?_⟩
  · rw [take_drop_snoc hf hi]
    intro d hm
    rcases List.mem_append.1 hm with hm | hm
    · exact h.dig d hm
    · rw [List.mem_singleton.1 hm, ← hc]; exact hd
  · rw [take_drop_snoc hf hi, valFrom_snoc, ← hc]
    intro hle
    have hn := h.val (by omega)
    rw [hn, wrap_in (n := 10 * _) ⟨by omega, by omega⟩, wrap_in ⟨by omega, by omega⟩]
    omega
theorem unsig_drop (l : List UInt8) : unsig l = l.drop (if l.headD 0 = 45 then 1 else 0) := by
  unfold unsig
  split
  · cases l <;> rfl
  · rfl
theorem byte_get {s : ByteArray} {i : Nat} (h : i < s.size) : (txt s)[i]'(by simpa using h) = s[i] := rfl

/-- What Read ends in. -/
def RetRd (w : World) (l : List UInt8) (e : Ending) (w' : World) : Prop := w' = w ∧ ∃ x b, e = .returned (.tuple #[.int .i64 x, .bool b]) ∧ RdOk l x b
set_option maxRecDepth 100000 in
set_option maxHeartbeats 8000000 in
theorem read_any (s : ByteArray) (w : World) : Calls Tryz.prog 117 #[.string s] w (RetRd w (txt s)) := by
  have hsz : (txt s).length = s.size := by simp
  by_cases h0 : s.size = 0
  · have d0 : ((s.size : Int) == 0) = true := by simp [h0]
    have hn : undecL (txt s) = none := undec_none_of fun v hv => (undec_shape hv).2.2.2.1 (List.length_eq_zero_iff.1 (by omega))
    have HN := Lib.hid (rd_none hn)
    clear hn hsz h0
    go_enter Tryz.func117, Tryz.ntmps117
    go_wp2_with fail
    go_ret2
    exact ⟨rfl, 0, false, rfl, HN.out⟩
  have d0 : ((s.size : Int) == 0) = false := by simp; intro h; exact h0 (by rw [h]; rfl)
  by_cases h20 : 20 < s.size
  · have d1 : decide ((20 : Int) < (s.size : Int)) = true := decide_eq_true (by omega)
    have hn : undecL (txt s) = none := undec_none_of fun v hv => by have := (undec_shape hv).2.2.2.2.1; omega
    have HN := Lib.hid (rd_none hn)
    clear hn hsz h0
    go_enter Tryz.func117, Tryz.ntmps117
    go_wp2_with fail
    go_ret2
    exact ⟨rfl, 0, false, rfl, HN.out⟩
  have d1 : decide ((20 : Int) < (s.size : Int)) = false := decide_eq_false (by omega)
  have hpos : 0 < s.size := by omega
  have hh : (txt s).headD 0 = s[0] := by
    have := drop_byte (s := s) (i := 0) hpos
    rw [byteAt_lt hpos, List.drop_zero] at this
    rw [this]; rfl
  obtain ⟨fr, hfr⟩ : ∃ fr : Nat, fr = if s[0] = 45 then 1 else 0 := ⟨_, rfl⟩
  have hun : unsig (txt s) = (txt s).drop fr := by rw [unsig_drop, hh, ← hfr]
  have HUN := Lib.hid hun
  have HH := Lib.hid hh
  have HSZ := Lib.hid hsz
  clear hun hh hsz h0
  by_cases hneg : s[0] = 45
  · have z45 : (((s[0]).toNat : Int) == 45) = true := by rw [hneg]; rfl
    rw [if_pos hneg] at hfr
    subst hfr
    have HNG := Lib.hid hneg
    clear hneg
    go_enter Tryz.func117, Tryz.ntmps117
    go_wp2_with fail
    go_loop [6, 5] (fun t v => ∃ (i : Nat) (n : Int), t = .int .i64 i ∧ 1 ≤ i ∧ i ≤ s.size ∧ v = .int .i64 n ∧ RdAt (txt s) 1 i n) (fun t v => s.size - (intOf t).toNat)
    case atStart =>
      refine ⟨1, 0, rfl, Nat.le_refl _, hpos, rfl, ⟨by omega, by omega⟩, ?_, ?_⟩
      · rw [List.drop_take]; simp
      · rw [List.drop_take]; intro _; rfl
    case round =>
      obtain ⟨i, n, rfl, hi1, hi, rfl, hrd⟩ := hrel
      have HR := Lib.hid hrd
      have hn1 := hrd.int.1
      have hn2 := hrd.int.2
      clear hrd
      by_cases hlt : i < s.size
      · obtain ⟨c, hc⟩ : ∃ c, c = s[i] := ⟨_, rfl⟩
        have hcb : (txt s)[i]'(by simpa using hlt) = c := by rw [byte_get hlt, hc]
        have HCB := Lib.hid hcb
        have hmem : c ∈ unsig (txt s) := by
          rw [HUN.out, ← hcb]
          rw [List.mem_iff_getElem]
          exact ⟨i - 1, by simp; omega, by rw [List.getElem_drop]; congr 1; omega⟩
        have HM := Lib.hid hmem
        clear hcb hmem
        have hcs : s[i] = c := hc.symm
        by_cases hd : isDig c = true
        · have hr := dig_range hd
          have e1 : decide (((s[i]).toNat : Int) < 48) = false := by rw [hcs]; exact decide_eq_false (by omega)
          have e2 : decide ((57 : Int) < ((s[i]).toNat : Int)) = false := by rw [hcs]; exact decide_eq_false (by omega)
          have HNX := Lib.hid (HR.out.next hi1 (by rw [HSZ.out]; exact hlt) HCB.out.symm hd)
          rw [hc] at hr HNX
          clear hd hc hcs HM HCB
          go_wp2_with fail
          go_round
          case rel => exact ⟨i + 1, _, by go_num, by omega, by omega, rfl, HNX.out⟩
          case measure => simp [intOf]; omega
        · have hn : undecL (txt s) = none := undec_none_of fun v hv => hd ((undec_shape hv).1 c HM.out)
          have HN := Lib.hid (rd_none hn)
          have hr : c.toNat < 48 ∨ 57 < c.toNat := by
            rcases Nat.lt_or_ge c.toNat 48 with h | h
            · exact .inl h
            · rcases Nat.lt_or_ge 57 c.toNat with h' | h'
              · exact .inr h'
              · exact absurd (by unfold isDig; simp only [Bool.and_eq_true, decide_eq_true_eq, UInt8.le_iff_toNat_le]; exact ⟨h, h'⟩) hd
          clear hn hd HM HCB
          rw [hc] at hr
          rcases hr with hr | hr
          · have e1 : decide (((s[i]).toNat : Int) < 48) = true := decide_eq_true (by omega)
            clear hc hcs
            go_wp2_with fail
            go_ret2
            exact ⟨rfl, 0, false, rfl, HN.out⟩
          · have e1 : decide (((s[i]).toNat : Int) < 48) = false := decide_eq_false (by omega)
            have e2 : decide ((57 : Int) < ((s[i]).toNat : Int)) = true := decide_eq_true (by omega)
            clear hc hcs
            go_wp2_with fail
            go_ret2
            exact ⟨rfl, 0, false, rfl, HN.out⟩
      · have his : i = s.size := by omega
        have hfin : ∀ v, undecL (txt s) = some v → n = v := by
          intro v hv
          obtain ⟨g1, g2, g3, g4, g5, g6⟩ := undec_shape hv
          have hneg : v < 0 := g3.1 (by rw [HH.out]; exact HNG.out)
          have hv2 := HR.out.val
          rw [his, ← HSZ.out, List.take_length, ← HUN.out, g2] at hv2
          unfold I64 at g6
          have := hv2 (by omega)
          omega
        have HF := Lib.hid (rd_fin HR.out.int hfin)
        have HN := Lib.hid (number_any HR.out.int w)
        clear hfin
        go_wp2_with fail
        refine HN.out.mono ?_
        rintro e w1 ⟨s1, rfl, t1, rfl⟩
        have T1 := Lib.hid t1
        clear t1
        go_wp2_with fail
        go_ret2
        refine ⟨rfl, n, s1.toList == s.toList, rfl, ?_⟩
        have : (s1.toList == s.toList) = decide (Lib.itoa n = txt s) := by
          rw [ByteArray.toList_eq s, lit_str', T1.out]
        rw [this]
        exact HF.out
  · have z45 : (((s[0]).toNat : Int) == 45) = false := by
      have : (s[0]).toNat ≠ 45 := fun e => hneg (UInt8.toNat_inj.1 e)
      simp; omega
    rw [if_neg hneg] at hfr
    subst hfr
    have HNG := Lib.hid hneg
    clear hneg
    go_enter Tryz.func117, Tryz.ntmps117
    go_wp2_with fail
    go_loop [6, 5] (fun t v => ∃ (i : Nat) (n : Int), t = .int .i64 i ∧ i ≤ s.size ∧ v = .int .i64 n ∧ RdAt (txt s) 0 i n) (fun t v => s.size - (intOf t).toNat)
    case atStart => exact ⟨0, 0, rfl, Nat.zero_le _, rfl, ⟨by omega, by omega⟩, by simp, fun _ => rfl⟩
    case round =>
      obtain ⟨i, n, rfl, hi, rfl, hrd⟩ := hrel
      have HR := Lib.hid hrd
      have hn1 := hrd.int.1
      have hn2 := hrd.int.2
      clear hrd
      by_cases hlt : i < s.size
      · obtain ⟨c, hc⟩ : ∃ c, c = s[i] := ⟨_, rfl⟩
        have hcb : (txt s)[i]'(by simpa using hlt) = c := by rw [byte_get hlt, hc]
        have HCB := Lib.hid hcb
        have hmem : c ∈ unsig (txt s) := by
          rw [HUN.out, List.drop_zero, ← hcb]
          exact List.getElem_mem _
        have HM := Lib.hid hmem
        clear hcb hmem
        have hcs : s[i] = c := hc.symm
        by_cases hd : isDig c = true
        · have hr := dig_range hd
          have e1 : decide (((s[i]).toNat : Int) < 48) = false := by rw [hcs]; exact decide_eq_false (by omega)
          have e2 : decide ((57 : Int) < ((s[i]).toNat : Int)) = false := by rw [hcs]; exact decide_eq_false (by omega)
          have HNX := Lib.hid (HR.out.next (Nat.zero_le _) (by rw [HSZ.out]; exact hlt) HCB.out.symm hd)
          rw [hc] at hr HNX
          clear hd hc hcs HM HCB
          go_wp2_with fail
          go_round
          case rel => exact ⟨i + 1, _, by go_num, by omega, rfl, HNX.out⟩
          case measure => simp [intOf]; omega
        · have hn : undecL (txt s) = none := undec_none_of fun v hv => hd ((undec_shape hv).1 c HM.out)
          have HN := Lib.hid (rd_none hn)
          have hr : c.toNat < 48 ∨ 57 < c.toNat := by
            rcases Nat.lt_or_ge c.toNat 48 with h | h
            · exact .inl h
            · rcases Nat.lt_or_ge 57 c.toNat with h' | h'
              · exact .inr h'
              · exact absurd (by unfold isDig; simp only [Bool.and_eq_true, decide_eq_true_eq, UInt8.le_iff_toNat_le]; exact ⟨h, h'⟩) hd
          clear hn hd HM HCB
          rw [hc] at hr
          rcases hr with hr | hr
          · have e1 : decide (((s[i]).toNat : Int) < 48) = true := decide_eq_true (by omega)
            clear hc hcs
            go_wp2_with fail
            go_ret2
            exact ⟨rfl, 0, false, rfl, HN.out⟩
          · have e1 : decide (((s[i]).toNat : Int) < 48) = false := decide_eq_false (by omega)
            have e2 : decide ((57 : Int) < ((s[i]).toNat : Int)) = true := decide_eq_true (by omega)
            clear hc hcs
            go_wp2_with fail
            go_ret2
            exact ⟨rfl, 0, false, rfl, HN.out⟩
      · have his : i = s.size := by omega
        obtain ⟨m, hm⟩ : ∃ m, m = wrap64 (-n) := ⟨_, rfl⟩
        have hmI : I64 m := by rw [hm]; exact wrap_i64 _
        have hfin : ∀ v, undecL (txt s) = some v → m = v := by
          intro v hv
          obtain ⟨g1, g2, g3, g4, g5, g6⟩ := undec_shape hv
          have hneg : ¬ v < 0 := fun h => HNG.out (by rw [← HH.out]; exact g3.2 h)
          have hv2 := HR.out.val
          rw [his, ← HSZ.out, List.take_length, ← HUN.out, g2] at hv2
          unfold I64 at g6
          have := hv2 (by omega)
          rw [hm, this, wrap_in ⟨by omega, by omega⟩]
          omega
        have HF := Lib.hid (rd_fin hmI hfin)
        have hnum := number_any hmI w
        rw [hm] at hnum
        have HN := Lib.hid hnum
        have HMM := Lib.hid hm
        clear hfin hm hnum
        go_wp2_with fail
        refine HN.out.mono ?_
        rintro e w1 ⟨s1, rfl, t1, rfl⟩
        rw [← HMM.out] at t1
        have T1 := Lib.hid t1
        clear t1
        go_wp2_with fail
        go_ret2
        rw [← HMM.out]
        refine ⟨rfl, m, s1.toList == s.toList, rfl, ?_⟩
        have : (s1.toList == s.toList) = decide (Lib.itoa m = txt s) := by
          rw [ByteArray.toList_eq s, lit_str', T1.out]
        rw [this]
        exact HF.out

theorem piece_cut {b : UInt8} {l : List UInt8} {fr i : Nat} (hf : fr ≤ i) (hi : i < l.length) (hb : l[i] = b) (hn : b ∉ (l.take i).drop fr) : cutAt b (l.drop fr) = (l.take i).drop fr :: cutAt b (l.drop (i + 1)) := by
  have e : l.drop fr = (l.take i).drop fr ++ b :: l.drop (i + 1) := by
    conv => lhs; rw [← List.take_append_drop i l]
    rw [List.drop_append_of_le_length (by rw [List.length_take]; omega), List.drop_eq_getElem_cons hi, hb]
  rw [e, cutAt_skip hn]
theorem extract_tx (s : ByteArray) (a b : Nat) : txt (s.extract a b) = ((txt s).take b).drop a := by
  show (s.extract a b).data.toList = _
  rw [Lib.extract_data, List.drop_take]
/-- What Parts ends in. -/
def RetSs (w : World) (l : List (List UInt8)) (e : Ending) (w' : World) : Prop := Below w.heap.size w w' ∧ ∃ (v : Value) (ss : List ByteArray), e = .returned v ∧ w'.ownsRow w.heap.size 9 1 v ss.length (ss.map Value.string) ∧ ss.map txt = l
set_option maxRecDepth 100000 in
set_option maxHeartbeats 8000000 in
theorem partsR_any {w : World} (s : ByteArray) (b : UInt8) (hs : s.size ≤ 131072) : Calls Tryz.prog 67 #[.string s, .int .u8 b.toNat] w (RetSs w (cutAt b (txt s))) := by
  obtain ⟨i0, hi0, hz0, hz1, hz2⟩ := info_parts info9
  have HSZ := Lib.hid (show (txt s).length = s.size by simp)
  go_enter Tryz.func67, Tryz.ntmps67
  go_wp2_with fail
  go_loopw [7, 6, 5] (fun t7 t6 t5 wr => ∃ (i fr : Nat) (ss : List ByteArray), t7 = .int .i64 i ∧ t6 = .int .i64 fr ∧ wr.ownsRow w.heap.size 9 1 t5 ss.length (ss.map Value.string) ∧ ss.length ≤ i ∧ Below w.heap.size w wr ∧
    ((i ≤ s.size ∧ fr ≤ i ∧ ss.map txt ++ cutAt b ((txt s).drop fr) = cutAt b (txt s) ∧ b ∉ ((txt s).take i).drop fr) ∨ (i = s.size + 1 ∧ ss.map txt = cutAt b (txt s)))) (fun t7 t6 t5 wr => s.size + 1 - (intOf t7).toNat)
  case atStart => exact ⟨0, 0, [], rfl, rfl, World.ownsRow_nil _ _ _ _, Nat.le_refl _, Below.refl _ _, .inl ⟨Nat.zero_le _, Nat.le_refl _, rfl, by simp⟩⟩
  case round =>
    obtain ⟨i, fr, ss, rfl, rfl, hown, hsl, hbl, hst⟩ := hrel
    have hszr := hbl.size
    rcases hst with ⟨hi, hf, heq, hnb⟩ | ⟨hi, heq⟩
    · have HEQ := Lib.hid heq
      have HNB := Lib.hid hnb
      clear heq hnb
      have d1 : decide ((i : Int) ≤ (s.size : Int)) = true := decide_eq_true (by omega)
      have hex : (s.extract fr i).size = i - fr := by
        have : (txt (s.extract fr i)).length = (s.extract fr i).size := by simp
        rw [← this, extract_tx, List.length_drop, List.length_take, HSZ.out]; omega
      have HEX := Lib.hid hex
      by_cases hlt : i < s.size
      · have d2 : ((i : Int) == (s.size : Int)) = false := by simp; omega
        have hlt' : i < (txt s).length := by rw [HSZ.out]; exact hlt
        by_cases hc : s[i] = b
        · have d3 : (((s[i]).toNat : Int) == (b.toNat : Int)) = true := by rw [hc]; simp
          have hpc := piece_cut hf hlt' (by rw [byte_get hlt]; exact hc) HNB.out
          have HPC := Lib.hid hpc
          clear hpc hc HNB
          go_wp2_with (at_builtin; refine wpList_append_lies _ rfl _ _ 27 rfl w.heap.size 9 i0 (.string ⟨#[]⟩) 1 16 Tryz.underlying27 hi0 hz0 hz1 hz2 rfl (by decide) _ _ _ rfl (hown.alloc _) ⟨wr.heap.size, 0, none⟩ 1 1 [.string (s.extract fr i)] rfl rfl (one_new _ _ _) (by simp [Value.oneCell']) (by decide) (by unfold maxLen; omega) (by omega) (by simp; omega) _ rfl ?_; intro g cap2 w2 hown2 hgr hat hg2)
          have hbl2 : Below w.heap.size w w2 := (hbl.alloc hszr _).grown hgr (by simp; omega) (fun j hj => (hown.lt j hj).1)
          go_wp2_with fail
          go_roundw
          case rel => exact ⟨i + 1, i + 1, ss ++ [s.extract fr i], by go_num, by go_num, by simpa using hown2, by simp; omega, hbl2, .inl ⟨by omega, Nat.le_refl _, by rw [List.map_append, List.append_assoc, ← HEQ.out, HPC.out]; simp [extract_tx], by rw [List.drop_take]; simp⟩⟩
          case measure => simp [intOf]; omega
        · have hne : (s[i]).toNat ≠ b.toNat := fun e => hc (UInt8.toNat_inj.1 e)
          have d3 : (((s[i]).toNat : Int) == (b.toNat : Int)) = false := by simp; omega
          have hnx : b ∉ ((txt s).take (i + 1)).drop fr := by
            rw [take_drop_snoc hf hlt']
            intro hm
            rcases List.mem_append.1 hm with hm | hm
            · exact HNB.out hm
            · rw [List.mem_singleton] at hm
              exact hc (by rw [← byte_get hlt]; exact hm.symm)
          have HNX := Lib.hid hnx
          clear hnx hc hne HNB
          go_wp2_with fail
          go_roundw
          case rel => exact ⟨i + 1, fr, ss, by go_num, rfl, hown, by omega, hbl, .inl ⟨by omega, by omega, HEQ.out, HNX.out⟩⟩
          case measure => simp [intOf]; omega
      · have his : i = s.size := by omega
        subst his
        have d2 : ((s.size : Int) == (s.size : Int)) = true := by simp
        have hpc : cutAt b ((txt s).drop fr) = [((txt s).take s.size).drop fr] := by
          have h := HNB.out
          rw [← HSZ.out, List.take_length] at h ⊢
          rw [cutAt_none h]
        have HPC := Lib.hid hpc
        clear hpc HNB
        go_wp2_with (at_builtin; refine wpList_append_lies _ rfl _ _ 27 rfl w.heap.size 9 i0 (.string ⟨#[]⟩) 1 16 Tryz.underlying27 hi0 hz0 hz1 hz2 rfl (by decide) _ _ _ rfl (hown.alloc _) ⟨wr.heap.size, 0, none⟩ 1 1 [.string (s.extract fr s.size)] rfl rfl (one_new _ _ _) (by simp [Value.oneCell']) (by decide) (by unfold maxLen; omega) (by omega) (by simp; omega) _ rfl ?_; intro g cap2 w2 hown2 hgr hat hg2)
        have hbl2 : Below w.heap.size w w2 := (hbl.alloc hszr _).grown hgr (by simp; omega) (fun j hj => (hown.lt j hj).1)
        go_wp2_with fail
        go_roundw
        case rel => exact ⟨s.size + 1, s.size + 1, ss ++ [s.extract fr s.size], by go_num, by go_num, by simpa using hown2, by simp; omega, hbl2, .inr ⟨rfl, by rw [List.map_append, ← HEQ.out, HPC.out]; simp [extract_tx]⟩⟩
        case measure => simp [intOf]
    · subst hi
      have d1 : decide (((s.size + 1 : Nat) : Int) ≤ (s.size : Int)) = false := decide_eq_false (by omega)
      have HEQ := Lib.hid heq
      clear heq
      go_wp2_with fail
      go_ret
      exact ⟨hbl, _, ss, rfl, hown, HEQ.out⟩
end Go.Proofs.YtddnmocoaahlfaaGreatDoor

namespace Go.Proofs.YtddnmocoaahlfaaGreatDoor
open Go.RowKit Go.Shelf

theorem srw_get {w : World} {p : Option Addr} {n c : Nat} {l : List ByteArray} (h : SRw w (.slice p n c) l) {i : Nat} (hi : i < l.length) : ∃ L o, p = some ⟨L, o, none⟩ ∧ w.cell? ⟨L, o + i, none⟩ = some (.string l[i]) := by
  rcases h with ⟨rfl, _⟩ | ⟨_, L, o, c', h1, _, h3⟩
  · simp at hi
  · injection h1 with h1 _ _
    exact ⟨L, o, h1, h3 i hi⟩
/-- The numbers so far and those of the texts still to come. -/
def numsFrom (ns : List Int) (r : List (List UInt8)) : Option (List Int) := match undecAllL r with | none => none | some l => some (ns ++ l)
theorem numsFrom_start (r : List (List UInt8)) : numsFrom [] r = undecAllL r := by unfold numsFrom; cases undecAllL r <;> rfl
theorem numsFrom_end (ns : List Int) : numsFrom ns [] = some ns := by unfold numsFrom undecAllL; simp
theorem undecAll_cons (s : List UInt8) (r : List (List UInt8)) : undecAllL (s :: r) = match undecL s with | none => none | some n => match undecAllL r with | none => none | some l => some (n :: l) := rfl
theorem numsFrom_next {ns : List Int} {s : List UInt8} {r : List (List UInt8)} {n : Int} (h : undecL s = some n) : numsFrom ns (s :: r) = numsFrom (ns ++ [n]) r := by
  unfold numsFrom
  rw [undecAll_cons, h]
  cases undecAllL r <;> simp
theorem numsFrom_stop {ns : List Int} {s : List UInt8} {r : List (List UInt8)} (h : undecL s = none) : numsFrom ns (s :: r) = none := by
  unfold numsFrom
  rw [undecAll_cons, h]
/-- What reading numbers ends in. -/
def RetNo (w : World) (r : Option (List Int)) (e : Ending) (w' : World) : Prop := Below w.heap.size w w' ∧ match r with
  | none => e = .returned (.tuple #[.slice none 0 0, .bool false])
  | some l => ∃ v, e = .returned (.tuple #[v, .bool true]) ∧ IRow w' w.heap.size v l
theorem drop_map {ss : List ByteArray} {k : Nat} (h : k < ss.length) : (ss.drop k).map txt = txt ss[k] :: (ss.drop (k + 1)).map txt := by rw [List.drop_eq_getElem_cons h]; rfl
set_option maxRecDepth 100000 in
set_option maxHeartbeats 8000000 in
theorem numbersR_any {w : World} {v : Value} {ss : List ByteArray} (hr : SRw w v ss) (hl : ss.length ≤ 131072) : Calls Tryz.prog 68 #[v] w (RetNo w (undecAllL (ss.map txt))) := by
  obtain ⟨i0, hi, hz0, hz1, hz2⟩ := info_parts info3
  obtain ⟨p, c, rfl⟩ := hr.form
  have HR := Lib.hid hr
  obtain ⟨res, hres⟩ : ∃ res, res = undecAllL (ss.map txt) := ⟨_, rfl⟩
  rw [← hres]
  have HS := Lib.hid hres
  have hcap : ss = [] ∨ ss.length ≤ c := by
    rcases hr with ⟨rfl, _⟩ | ⟨_, L, o, c', h1, h2, h3⟩
    · exact .inl rfl
    · injection h1 with _ _ h1; subst h1; exact .inr h2
  clear hres hr
  go_enter Tryz.func68, Tryz.ntmps68
  go_wp2_with fail
  go_loopw [5, 4] (fun t v4 wr => ∃ (k : Nat) (ns : List Int), t = .int .i64 k ∧ k ≤ ss.length ∧ ns.length = k ∧ wr.ownsRow w.heap.size 3 1 v4 ns.length (ns.map fun n => Value.int .i64 n) ∧ numsFrom ns ((ss.drop k).map txt) = res ∧ Below w.heap.size w wr) (fun t v4 wr => ss.length - (intOf t).toNat)
  case atStart => exact ⟨0, [], rfl, Nat.zero_le _, rfl, World.ownsRow_nil _ _ _ _, by rw [List.drop_zero, numsFrom_start]; exact HS.out.symm, Below.refl _ _⟩
  case round =>
    obtain ⟨k, ns, rfl, hk, hnk, hown, hev, hbl⟩ := hrel
    have hszr := hbl.size
    have HNK := Lib.hid hnk
    have hnl : ns.length ≤ 131072 := by omega
    clear hnk
    by_cases hlt : k < ss.length
    · obtain ⟨L, o, rfl, ck0⟩ := srw_get HR.out hlt
      have ck := cell_below ck0 hbl
      have hcc : ss.length ≤ c := hcap.resolve_left (fun e => by rw [e] at hlt; simp at hlt)
      rw [drop_map hlt] at hev
      have HE := Lib.hid hev
      generalize ss[k] = x at *
      have HRD := Lib.hid (read_any x wr)
      clear hev ck0
      cases hu : undecL (txt x) with
      | none =>
        have hrn : res = none := by rw [← HE.out, numsFrom_stop hu]
        have HRN := Lib.hid hrn
        have HU := Lib.hid hu
        clear hrn hu
        go_wp2_with fail
        refine HRD.out.mono ?_
        rintro e w1 ⟨rfl, n, b, rfl, hrd⟩
        have hb : b = false := by rw [hrd.some, HU.out]; rfl
        subst hb
        clear hrd
        go_wp2_with fail
        go_ret2
        unfold RetNo
        rw [HRN.out]
        exact ⟨hbl, rfl⟩
      | some n =>
        have hnx := numsFrom_next (ns := ns) (r := (ss.drop (k + 1)).map txt) hu
        have HNX := Lib.hid hnx
        have HU := Lib.hid hu
        clear hnx hu
        go_wp2_with fail
        refine HRD.out.mono ?_
        rintro e w1 ⟨rfl, x1, b, rfl, hrd⟩
        have hb : b = true := by rw [hrd.some, HU.out]; rfl
        have hx1 : x1 = n := hrd.val n HU.out
        subst hb
        subst hx1
        clear hrd
        go_wp2_with (at_builtin; refine wpList_append_lies _ rfl _ _ 22 rfl w.heap.size 3 i0 (.int .i64 0) 1 8 Tryz.underlying22 hi hz0 hz1 hz2 rfl (by decide) _ _ _ rfl (hown.alloc _) ⟨w1.heap.size, 0, none⟩ 1 1 [.int .i64 x1] rfl rfl (one_new _ _ _) (by simp [Value.oneCell']) (by decide) (by unfold maxLen; omega) (by omega) (by simp; omega) _ rfl ?_; intro g cap2 w2 hown2 hgr hat hg2)
        have hbl2 : Below w.heap.size w w2 := (hbl.alloc hszr _).grown hgr (by simp; omega) (fun j hj => (hown.lt j hj).1)
        go_wp2_with fail
        go_roundw
        case rel => exact ⟨k + 1, ns ++ [x1], by go_num, by omega, by simp [HNK.out], by simpa using hown2, by rw [← HNX.out]; exact HE.out, hbl2⟩
        case measure => simp [intOf]; omega
    · have hkk : k = ss.length := by omega
      have hrn : res = some ns := by rw [← hev, List.drop_of_length_le (by omega), List.map_nil, numsFrom_end]
      have HRN := Lib.hid hrn
      clear hrn hev
      go_wp2_with fail
      go_ret2
      unfold RetNo
      rw [HRN.out]
      exact ⟨hbl, _, rfl, hown⟩
theorem actOf_iff {t : List UInt8} {k : Nat} (h1 : 1 ≤ k) (h2 : k ≤ 17) (h : wordOf k = t) : actOfL t = k := by
  rw [← h]; exact (word_fact h1 h2).2.2.1
theorem actOf_none {t : List UInt8} (h : ∀ j, 1 ≤ j → j < 18 → wordOf j ≠ t) : actOfL t = 0 := by
  by_cases h0 : actOfL t = 0
  · exact h0
  · obtain ⟨a, b, c⟩ := actOf_word rfl h0
    exact absurd a (h _ b (by omega))
set_option maxRecDepth 100000 in
set_option maxHeartbeats 8000000 in
theorem kindR_any (s : ByteArray) (w : World) : Calls Tryz.prog 70 #[.string s] w (RetV w (.int .i64 (actOfL (txt s)))) := by
  obtain ⟨res, hres⟩ : ∃ res, res = actOfL (txt s) := ⟨_, rfl⟩
  rw [← hres]
  have HS := Lib.hid hres
  clear hres
  go_enter Tryz.func70, Tryz.ntmps70
  go_wp2_with fail
  go_loopw [3] (fun t wr => ∃ k : Nat, t = .int .i64 k ∧ 1 ≤ k ∧ k ≤ 18 ∧ Below w.heap.size w wr ∧ ∀ j, 1 ≤ j → j < k → wordOf j ≠ txt s) (fun t wr => 18 - (intOf t).toNat)
  case atStart => exact ⟨1, rfl, Nat.le_refl _, by decide, Below.refl _ _, fun j h1 h2 => by omega⟩
  case round =>
    obtain ⟨k, rfl, hk1, hk, hbl, hne⟩ := hrel
    have HNE := Lib.hid hne
    clear hne
    by_cases hlt : k < 18
    · have hrw : refWord k = (wordOf k, fieldsOf k) := by unfold refWord; rw [if_neg (by omega)]; rfl
      have HW := word_any k wr
      rw [hrw] at HW
      have HWW := Lib.hid HW
      have HA := Lib.hid (actOf_iff (t := txt s) hk1 (by omega))
      clear HW hrw
      obtain ⟨wd, hwd⟩ : ∃ wd, wd = wordOf k := ⟨_, rfl⟩
      rw [← hwd] at HWW HA
      have HWD := Lib.hid hwd
      clear hwd
      generalize fieldsOf k = fs at *
      go_wp2_with fail
      refine HWW.out.mono ?_
      rintro e w1 ⟨b1, sw, rfl, hsw⟩
      have hbl1 := hbl.trans (b1.mono hbl.size)
      have he0 : (sw.toList == s.toList) = decide (wd = txt s) := by rw [ByteArray.toList_eq s, lit_str', hsw]
      by_cases hc : wd = txt s
      · rw [decide_eq_true hc] at he0
        have hr : res = k := by rw [HS.out]; exact HA.out hc
        subst hr
        clear hc hsw
        go_wp2_with fail
        go_ret
        exact ⟨rfl, hbl1⟩
      · rw [decide_eq_false hc] at he0
        have HC := Lib.hid hc
        clear hc hsw
        go_wp2_with fail
        go_roundw
        case rel =>
          refine ⟨k + 1, by go_num, by omega, by omega, hbl1, fun j h1 h2 => ?_⟩
          by_cases hjk : j = k
          · rw [hjk, ← HWD.out]; exact HC.out
          · exact HNE.out j h1 (by omega)
        case measure => simp [intOf]; omega
    · have hk18 : k = 18 := by omega
      have hr : res = 0 := by rw [HS.out]; exact actOf_none (fun j h1 h2 => HNE.out j h1 (by omega))
      subst hr
      subst hk18
      go_wp2_with fail
      go_ret
      exact ⟨rfl, hbl⟩
end Go.Proofs.YtddnmocoaahlfaaGreatDoor

namespace Go.Proofs.YtddnmocoaahlfaaGreatDoor
open Go.RowKit

theorem setRow_heap (w : World) (R : Nat) (cs c' : Array Value) (t : TypeId) (h : Blk w R cs t) : Blk (w.setRow R c') R c' t := by
  unfold Blk at *
  unfold World.setRow
  simp [Array.getElem?_modify, h]
theorem setRow_other (w : World) (R : Nat) (c' : Array Value) {k : Nat} (h : k ≠ R) : (w.setRow R c').heap[k]? = w.heap[k]? := by
  unfold World.setRow
  simp [Array.getElem?_modify, Ne.symm h]
theorem setRow_stays (w : World) (R : Nat) (c' : Array Value) : Stays (fun k => k = R) w (w.setRow R c') :=
  ⟨rfl, rfl, rfl, by unfold World.setRow; simp, fun k hk hn => setRow_other w R c' hn⟩
theorem blk_store {w : World} {R : Nat} {cs c' : Array Value} {t : TypeId} (h : Blk w R cs t) (hi : (Tryz.prog.info? t).map (·.size) = some c'.size) (ho : cs.size = c'.size) (h1 : c'.toList.all (·.oneCell') = true) :
    (Instr.storeAt t (.pointer (some ⟨R, 0, none⟩)) (.agg c')).run Tryz.prog w = .ok () (w.setRow R c') := by
  simp only [Instr.storeAt, Instr.sureAddr, Sem.run_bind, Sem.run_pure, Result.andThen]
  exact run_storeVar_row _ _ t t cs c' h hi ho (by rw [← Array.all_toList]; exact h1)
theorem size24 : (Tryz.prog.info? 24).map (·.size) = some 7 := by kernel_rfl
end Go.Proofs.YtddnmocoaahlfaaGreatDoor

namespace Go.Proofs.YtddnmocoaahlfaaGreatDoor
open Go.RowKit Go.Shelf

/-- How many numbers an act of a kind takes. -/
def takesR (k n : Nat) : Bool := if k = 17 then decide (n ≤ 16) else decide (n = (refWord k).2)
/-- What Of ends in. -/
def RetOf (w : World) (k : Nat) (v : Value) (l : List Int) (e : Ending) (w' : World) : Prop := Below w.heap.size w w' ∧ ∃ (k' a b c d f : Int) (kv : Value) (kp : List Int), e = .returned (.tuple #[actV k' a b c d f kv, .bool (takesR k l.length)]) ∧ NRow w' kv kp ∧ ((∃ p n c, kv = .slice p n c) ∧ (kv = .slice none 0 0 ∨ kv = v)) ∧ (takesR k l.length = true → k' = k ∧ makeActL k l = ⟨k, [a, b, c, d, f], kp⟩)
theorem crash_iff {k : Nat} (hk : k ≤ 17) : (refWord k).1 = [99, 114, 97, 115, 104] ↔ k = 17 := by
  unfold refWord
  by_cases h0 : k = 0
  · subst h0; simp
  · rw [if_neg (by omega)]
    simp only [Int.toNat_natCast]
    obtain ⟨_, _, w10, _⟩ := word_fact (k := k) (by omega) hk
    constructor
    · intro h
      rw [h] at w10
      have : actOfL [99, 114, 97, 115, 104] = 17 := by decide
      omega
    · rintro rfl; rfl
theorem acts_cells {w : World} {R : Nat} {k a b c d e : Int} {p : Option Addr} {n m : Nat} (h : Blk w R #[.int .i64 k, .int .i64 a, .int .i64 b, .int .i64 c, .int .i64 d, .int .i64 e, .slice p n m] 24) :
    w.cell? ⟨R, 0, none⟩ = some (.int .i64 k) ∧ w.cell? ⟨R, 1, none⟩ = some (.int .i64 a) ∧ w.cell? ⟨R, 2, none⟩ = some (.int .i64 b) ∧ w.cell? ⟨R, 3, none⟩ = some (.int .i64 c) ∧ w.cell? ⟨R, 4, none⟩ = some (.int .i64 d) ∧ w.cell? ⟨R, 5, none⟩ = some (.int .i64 e) ∧ w.cell? ⟨R, 6, none⟩ = some (.slice p n m) :=
  ⟨(h.cell 0).trans rfl, (h.cell 1).trans rfl, (h.cell 2).trans rfl, (h.cell 3).trans rfl, (h.cell 4).trans rfl, (h.cell 5).trans rfl, (h.cell 6).trans rfl⟩
theorem nrow_stays {M : Nat → Prop} {w w' : World} {v : Value} {l : List Int} (h : NRow w v l) (b : Stays M w w') (hM : ∀ L o c, v = .slice (some ⟨L, o, none⟩) l.length c → l ≠ [] → ¬ M L) : NRow w' v l := by
  rcases h with h | ⟨h0, L, o, c, h1, h2, h3⟩
  · exact .inl h
  · refine .inr ⟨h0, L, o, c, h1, h2, fun j hj => ?_⟩
    have hc := h3 j hj
    exact (World.cell?_of_block (a := ⟨L, o + j, none⟩) (b.block L (World.block_lt_of_cell? w _ hc) (hM L o c h1 h0))).trans hc
theorem nrow_lt {w : World} {L o n c : Nat} {l : List Int} (h : NRow w (.slice (some ⟨L, o, none⟩) n c) l) (h0 : l ≠ []) : L < w.heap.size := by
  rcases h with ⟨h, _⟩ | ⟨_, L', o', c', h1, h2, h3⟩
  · exact absurd h h0
  · injection h1 with h1 _ _
    injection h1 with h1
    injection h1 with h1 _
    subst h1
    exact World.block_lt_of_cell? w _ (h3 0 (List.length_pos_iff.2 h0))
set_option maxRecDepth 100000 in
set_option maxHeartbeats 8000000 in
theorem ofR_any {w : World} {k : Nat} (hk : k ≤ 17) {v : Value} {l : List Int} (hr : NRow w v l) (hl : l.length ≤ 131072) : Calls Tryz.prog 69 #[.int .i64 k, v] w (RetOf w k v l) := by
  obtain ⟨p, cc, rfl⟩ := hr.form
  obtain ⟨w1, hw1⟩ : ∃ w1, w1 = w.alloc (.cells #[.int .i64 0, .int .i64 0, .int .i64 0, .int .i64 0, .int .i64 0, .int .i64 0, .slice none 0 0] 24) := ⟨_, rfl⟩
  have l1 : Below w.heap.size w w1 := by rw [hw1]; exact (Below.refl _ _).alloc (Nat.le_refl _) _
  have bR : Blk w1 w.heap.size #[.int .i64 0, .int .i64 0, .int .i64 0, .int .i64 0, .int .i64 0, .int .i64 0, .slice none 0 0] 24 := by rw [hw1]; exact Blk.new w _ _
  have HW := Lib.hid hw1
  have HWD := Lib.hid (word_any k w1)
  have HCR := Lib.hid (crash_iff hk)
  have HRW := Lib.hid (refWord_le k)
  have HK := Lib.hid hk
  have HL := Lib.hid hr
  obtain ⟨tk, htk⟩ : ∃ tk, tk = takesR k l.length := ⟨_, rfl⟩
  have HTK := Lib.hid htk
  clear hw1 hr htk
  go_enter Tryz.func69, Tryz.ntmps69
  go_wp2_with fail
  rw [← HW.out]
  refine HWD.out.mono ?_
  rintro e w2 ⟨b2, sw, rfl, hsw⟩
  have l2 := l1.trans (b2.mono l1.size)
  have B2 := bR.below b2
  have HS := Lib.hid hsw
  have HL2 := Lib.hid ((HL.out.below l1).below b2)
  have HWZ := Lib.hid (show w1.heap.size = w.heap.size + 1 by rw [HW.out]; simp)
  clear bR hsw
  have size := size24
  by_cases h17 : k = 17
  · have d1 : (sw.toList == [99, 114, 97, 115, 104]) = true := by rw [lit_str', HS.out]; exact decide_eq_true (HCR.out.2 h17)
    have htk : takesR k l.length = decide ((l.length : Int) ≤ 16) := by
      unfold takesR; rw [if_pos h17]
      by_cases h : l.length ≤ 16
      · rw [decide_eq_true h, decide_eq_true (by omega)]
      · rw [decide_eq_false h, decide_eq_false (by omega)]
    have HTK2 := Lib.hid htk
    have H17 := Lib.hid h17
    clear htk h17
    go_wp2_with (refine wpList_unit (o := ⟨none, Op.store 24 _ _, _, _, _, _⟩) rfl rfl (Instr.storeAt 24 _ _) rfl (blk_store (c' := #[.int .i64 k, .int .i64 0, .int .i64 0, .int .i64 0, .int .i64 0, .int .i64 0, .slice p l.length cc]) B2 size24 rfl rfl) ?_)
    have hB := setRow_heap w2 w.heap.size _ #[.int .i64 k, .int .i64 0, .int .i64 0, .int .i64 0, .int .i64 0, .int .i64 0, .slice p l.length cc] 24 B2
    have hS := setRow_stays w2 w.heap.size #[.int .i64 k, .int .i64 0, .int .i64 0, .int .i64 0, .int .i64 0, .int .i64 0, .slice p l.length cc]
    obtain ⟨w4, hw4⟩ : ∃ w4, w4 = w2.setRow w.heap.size #[.int .i64 k, .int .i64 0, .int .i64 0, .int .i64 0, .int .i64 0, .int .i64 0, .slice p l.length cc] := ⟨_, rfl⟩
    rw [← hw4] at hB hS
    rw [← hw4]
    have hl4 := l2.trans (hS.below l2.size (fun j hj e => by omega))
    obtain ⟨y0, y1, y2, y3, y4, y5, y6⟩ := acts_cells hB
    have hnr : NRow w4 (.slice p l.length cc) l := nrow_stays HL2.out hS (fun L o c h h0 => by
      injection h with h _ _
      subst h
      have := nrow_lt HL.out h0
      have hz := HWZ.out
      omega)
    have hb : decide ((l.length : Int) ≤ 16) = takesR k l.length := HTK2.out.symm
    refine ⟨rfl, .tuple #[actV k 0 0 0 0 0 (.slice p l.length cc), .bool (takesR k l.length)], ?_, hl4, k, 0, 0, 0, 0, 0, .slice p l.length cc, l, rfl, hnr, ⟨⟨p, _, cc, rfl⟩, .inr rfl⟩, fun _ => ⟨rfl, by unfold makeActL; rw [if_pos H17.out, H17.out]⟩⟩
    rw [← hb]
    clear hb
    simp [results, Tryz.results69, go_sem, y0, y1, y2, y3, y4, y5, y6]
  have d1 : (sw.toList == [99, 114, 97, 115, 104]) = false := by rw [lit_str', HS.out]; exact decide_eq_false (fun h => h17 (HCR.out.1 h))
  obtain ⟨n, hn⟩ : ∃ n, n = (refWord k).2 := ⟨_, rfl⟩
  rw [← hn]
  have hn5 : n ≤ 5 := by rw [hn]; exact HRW.out.1
  have htk : takesR k l.length = decide (l.length = n) := by unfold takesR; rw [if_neg h17, hn]
  have HTK2 := Lib.hid htk
  have H17 := Lib.hid h17
  clear htk h17 hn HRW HCR
  by_cases hln : l.length = n
  rotate_left
  · have d2 : ((l.length : Int) != (n : Int)) = true := by simp; omega
    have hb : takesR k l.length = false := by rw [HTK2.out]; exact decide_eq_false hln
    have HB := Lib.hid hb
    clear hb hln
    go_wp2_with (refine wpList_unit (o := ⟨none, Op.store 24 _ _, _, _, _, _⟩) rfl rfl (Instr.storeAt 24 _ _) rfl (blk_store (c' := #[.int .i64 0, .int .i64 0, .int .i64 0, .int .i64 0, .int .i64 0, .int .i64 0, .slice none 0 0]) B2 size24 rfl rfl) ?_)
    have hB := setRow_heap w2 w.heap.size _ #[.int .i64 0, .int .i64 0, .int .i64 0, .int .i64 0, .int .i64 0, .int .i64 0, .slice none 0 0] 24 B2
    have hS := setRow_stays w2 w.heap.size #[.int .i64 0, .int .i64 0, .int .i64 0, .int .i64 0, .int .i64 0, .int .i64 0, .slice none 0 0]
    obtain ⟨w4, hw4⟩ : ∃ w4, w4 = w2.setRow w.heap.size #[.int .i64 0, .int .i64 0, .int .i64 0, .int .i64 0, .int .i64 0, .int .i64 0, .slice none 0 0] := ⟨_, rfl⟩
    rw [← hw4] at hB hS
    rw [← hw4]
    have hl4 := l2.trans (hS.below l2.size (fun j hj e => by omega))
    obtain ⟨y0, y1, y2, y3, y4, y5, y6⟩ := acts_cells hB
    refine ⟨rfl, .tuple #[actV 0 0 0 0 0 0 (.slice none 0 0), .bool false], ?_, hl4, 0, 0, 0, 0, 0, 0, .slice none 0 0, [], by rw [HB.out], .inl ⟨rfl, _, _, rfl⟩, ⟨⟨_, _, _, rfl⟩, .inl rfl⟩, fun h => by rw [HB.out] at h; cases h⟩
    simp [results, Tryz.results69, go_sem, y0, y1, y2, y3, y4, y5, y6]
  have d2 : ((l.length : Int) != (n : Int)) = false := by simp [hln]
  have hb : takesR k l.length = true := by rw [HTK2.out]; exact decide_eq_true hln
  have HB := Lib.hid hb
  obtain ⟨a, b, c, d, f, h5⟩ := five (l := (l ++ [0, 0, 0, 0, 0]).take 5) (by simp)
  have H5 := Lib.hid h5
  obtain ⟨i0, hi, hz0, hz1, hz2⟩ := info_parts info3
  clear hb h5
  have hl5 : l.length ≤ 5 := by omega
  have HLN := Lib.hid hln
  clear hln hn5
  obtain ⟨w3, hw3⟩ : ∃ w3, w3 = w2.alloc (.cells #[] 3) := ⟨_, rfl⟩
  have b3 : Blk w3 w2.heap.size #[] 3 := by rw [hw3]; exact Blk.new w2 _ _
  have l23 : Below w2.heap.size w2 w3 := by rw [hw3]; exact (Below.refl _ _).alloc (Nat.le_refl _) _
  have o3 : w3.ownsRow w2.heap.size 3 1 (.slice (some ⟨w2.heap.size, 0, none⟩) 0 0) 0 [] :=
    ⟨rfl, .inr ⟨w2.heap.size, 0, #[], rfl, Nat.le_refl _, b3, Nat.le_refl _, Nat.zero_le _, rfl, rfl⟩⟩
  have HW3 := Lib.hid hw3
  have O3 := Lib.hid o3
  have HL3 := Lib.hid (HL2.out.below l23)
  have hsz2 : w2.heap.size ≤ w3.heap.size := l23.size
  have hnew5 : ∀ W : World, ∀ j u, ([.int .i64 0, .int .i64 0, .int .i64 0, .int .i64 0, .int .i64 0] : List Value)[j]? = some u → (W.alloc (.cells #[.int .i64 0, .int .i64 0, .int .i64 0, .int .i64 0, .int .i64 0] 3)).cell? ((⟨W.heap.size, 0, none⟩ : Addr).add j) = some u := fun W => World.news_of_block (heap_alloc_new W _)
  have HN5 := Lib.hid hnew5
  clear hw3 o3 b3 hnew5
  by_cases h0 : l = []
  · subst h0
    obtain rfl : n = 0 := HLN.out.symm
    clear d2
    have hz3 : w3.heap.size = w2.heap.size + 1 := by rw [HW3.out]; simp
    have hnz : ∀ j u, ([.int .i64 0, .int .i64 0, .int .i64 0, .int .i64 0, .int .i64 0] : List Value)[j]? = some u → (w3.alloc (.cells #[.int .i64 0, .int .i64 0, .int .i64 0, .int .i64 0, .int .i64 0] 3)).cell? ((⟨w2.heap.size + 1, 0, none⟩ : Addr).add j) = some u := by rw [← hz3]; exact HN5.out w3
    have HNZ := Lib.hid hnz
    clear hnz hz3
    go_upto_region 6 with fail
    go_wp2_with (first | (at_builtin; refine wpList_append_zero (o := ⟨some 28, _, _, _, _, _⟩) rfl (.tmp 26) (.tmp 27) 22 rfl 3 i0 Tryz.underlying22 hi _ _ _ rfl (Nat.le_refl _) _ _ rfl ?_) | (at_builtin; rw [← HW3.out]; refine wpList_append_lies (o := ⟨some 30, _, _, _, _, _⟩) _ rfl (.tmp 28) (.tmp 29) 22 rfl w2.heap.size 3 i0 (.int .i64 0) 1 8 Tryz.underlying22 hi hz0 hz1 hz2 rfl (by decide) _ _ _ rfl (O3.out.alloc _) ⟨w2.heap.size + 1, 0, none⟩ 5 5 [.int .i64 0, .int .i64 0, .int .i64 0, .int .i64 0, .int .i64 0] rfl rfl HNZ.out (by intro u hu; simp at hu; subst hu; rfl) (by decide) (by unfold maxLen; omega) (by omega) (by simp; omega) _ rfl ?_; intro g5 cap5 w5 hown5 hgr5 hat5 hg5) | fail)
    have l25 : Below w2.heap.size w2 w5 := l23.trans (((Below.refl _ w3).alloc (Nat.le_refl _) _ |>.mono hsz2).grown hgr5 (by simp; omega) (fun j hj => (O3.out.lt j hj).1))
    have B5 := B2.below l25
    have hrow : w5.ownsRow w2.heap.size 3 1 (.slice (some ⟨g5, 0, none⟩) (([] : List Int).length + 5) cap5) (([] : List Int).length + 5) ((([] : List Int) ++ [0, 0, 0, 0, 0]).map fun n => Value.int .i64 n) := by simpa using hown5
    have hcells : ∀ i x, ((([] : List Int) ++ [0, 0, 0, 0, 0]).take 5)[i]? = some x → w5.cell? ⟨g5, i, none⟩ = some (.int .i64 x) := fun i x hx => by
      obtain ⟨q1, q2⟩ := List.getElem?_eq_some_iff.1 hx
      have q3 : i < 5 := by rw [List.length_take] at q1; omega
      rw [row_get hrow (by omega) i (by simp; omega)]
      simp only [List.getElem_map]
      rw [← q2, List.getElem_take]
    rw [H5.out] at hcells
    have e0 := hcells 0 a rfl
    have e1 := hcells 1 b rfl
    have e2 := hcells 2 c rfl
    have e3 := hcells 3 d rfl
    have e4 := hcells 4 f rfl
    have l5 := l2.trans (l25.mono l2.size)
    obtain ⟨g0, g1, g2, g3, g4, g6, g7⟩ := acts_cells B5
    have z0 := B5.frozen 0
    have z1 := B5.frozen 1
    have z2 := B5.frozen 2
    have z3 := B5.frozen 3
    have z4 := B5.frozen 4
    have z5 := B5.frozen 5
    have z6 := B5.frozen 6
    clear hcells hrow hown5 hgr5 hat5 B2 l25
    go_wp2_with fail
    go_region
    go_wp2_with fail
    have hB6 : Blk ((((((((w5.setCell ⟨w.heap.size, 0, none⟩ (.int .i64 k)).setCell ⟨w.heap.size, 1, none⟩ (.int .i64 a)).setCell ⟨w.heap.size, 2, none⟩ (.int .i64 b)).setCell ⟨w.heap.size, 3, none⟩ (.int .i64 c)).setCell ⟨w.heap.size, 4, none⟩ (.int .i64 d)).setCell ⟨w.heap.size, 5, none⟩ (.int .i64 f)).setCell ⟨w.heap.size, 6, none⟩ (.slice none 0 0)).drew) w.heap.size #[.int .i64 k, .int .i64 a, .int .i64 b, .int .i64 c, .int .i64 d, .int .i64 f, .slice none 0 0] 24 := (((((((B5.set 0 (.int .i64 k)).set 1 (.int .i64 a)).set 2 (.int .i64 b)).set 3 (.int .i64 c)).set 4 (.int .i64 d)).set 5 (.int .i64 f)).set 6 (.slice none 0 0)).drewN 1
    have hS6 : Stays (fun j => j = w.heap.size) w5 ((((((((w5.setCell ⟨w.heap.size, 0, none⟩ (.int .i64 k)).setCell ⟨w.heap.size, 1, none⟩ (.int .i64 a)).setCell ⟨w.heap.size, 2, none⟩ (.int .i64 b)).setCell ⟨w.heap.size, 3, none⟩ (.int .i64 c)).setCell ⟨w.heap.size, 4, none⟩ (.int .i64 d)).setCell ⟨w.heap.size, 5, none⟩ (.int .i64 f)).setCell ⟨w.heap.size, 6, none⟩ (.slice none 0 0)).drew) := (((((((Stays.cell (.refl _ w5) 0 (.int .i64 k)).cell 1 (.int .i64 a)).cell 2 (.int .i64 b)).cell 3 (.int .i64 c)).cell 4 (.int .i64 d)).cell 5 (.int .i64 f)).cell 6 (.slice none 0 0)).drewN 1
    obtain ⟨w6, hw6⟩ : ∃ w6, w6 = ((((((((w5.setCell ⟨w.heap.size, 0, none⟩ (.int .i64 k)).setCell ⟨w.heap.size, 1, none⟩ (.int .i64 a)).setCell ⟨w.heap.size, 2, none⟩ (.int .i64 b)).setCell ⟨w.heap.size, 3, none⟩ (.int .i64 c)).setCell ⟨w.heap.size, 4, none⟩ (.int .i64 d)).setCell ⟨w.heap.size, 5, none⟩ (.int .i64 f)).setCell ⟨w.heap.size, 6, none⟩ (.slice none 0 0)).drew) := ⟨_, rfl⟩
    rw [← hw6] at hB6 hS6
    rw [← hw6]
    clear hw6
    have hl6 := l5.trans (hS6.below l5.size (fun j hj e => by omega))
    obtain ⟨y0, y1, y2, y3, y4, y5, y6⟩ := acts_cells hB6
    refine ⟨rfl, .tuple #[actV k a b c d f (.slice none 0 0), .bool true], ?_, hl6, k, a, b, c, d, f, .slice none 0 0, [], by rw [HB.out], .inl ⟨rfl, _, _, rfl⟩, ⟨⟨_, _, _, rfl⟩, .inl rfl⟩, fun _ => ⟨rfl, by unfold makeActL; rw [if_neg H17.out, H5.out]⟩⟩
    simp [results, Tryz.results69, go_sem, y0, y1, y2, y3, y4, y5, y6]
  · have hpos := List.length_pos_iff.2 h0
    obtain ⟨L, o, rfl, _⟩ := nrow_get HL3.out hpos
    have hcap : l.length ≤ cc := (nrow_cap HL3.out).resolve_left h0
    have hnews : ∀ j u, (l.map fun n => Value.int .i64 n)[j]? = some u → w3.cell? ((⟨L, o, none⟩ : Addr).add j) = some u := fun j u hj => by
      rw [List.getElem?_map] at hj
      cases hm : l[j]? with
      | none => rw [hm] at hj; cases hj
      | some y =>
        rw [hm] at hj
        injection hj with hj
        subst hj
        obtain ⟨q1, q2⟩ := List.getElem?_eq_some_iff.1 hm
        obtain ⟨L', o', e', hc⟩ := nrow_get HL3.out q1
        cases e'
        rw [Addr.add_lit, hc, q2]
    have HNW := Lib.hid hnews
    clear hnews
    go_upto_region 6 with fail
    go_wp2_with (first | (at_builtin; rw [← HW3.out]; refine wpList_append_lies (o := ⟨some 28, _, _, _, _, _⟩) _ rfl (.tmp 26) (.tmp 27) 22 rfl w2.heap.size 3 i0 (.int .i64 0) 1 8 Tryz.underlying22 hi hz0 hz1 hz2 rfl (by decide) _ _ _ rfl O3.out ⟨L, o, none⟩ l.length cc (l.map fun n => Value.int .i64 n) rfl (by simp) HNW.out (by intro u hu; obtain ⟨y, _, rfl⟩ := List.mem_map.1 hu; rfl) hpos (by unfold maxLen; omega) (by omega) hsz2 _ rfl ?_; intro g cap2 w4 hown4 hgr hat hg2; have l34 : Below w2.heap.size w3 w4 := ((Below.refl _ w3).mono hsz2).grown hgr hsz2 (fun j hj => (O3.out.lt j hj).1); have hsz4 := l34.size; simp only [Nat.zero_add, List.nil_append] at hown4) | (at_builtin; refine wpList_append_lies (o := ⟨some 30, _, _, _, _, _⟩) _ rfl (.tmp 28) (.tmp 29) 22 rfl w2.heap.size 3 i0 (.int .i64 0) 1 8 Tryz.underlying22 hi hz0 hz1 hz2 rfl (by decide) _ _ _ rfl (hown4.alloc _) ⟨w4.heap.size, 0, none⟩ 5 5 [.int .i64 0, .int .i64 0, .int .i64 0, .int .i64 0, .int .i64 0] rfl rfl (HN5.out _) (by intro u hu; simp at hu; subst hu; rfl) (by decide) (by unfold maxLen; omega) (by omega) (by simp; omega) _ rfl ?_; intro g5 cap5 w5 hown5 hgr5 hat5 hg5) | fail)
    have l25 : Below w2.heap.size w2 w5 := (l23.trans l34).trans (((Below.refl _ w4).alloc (Nat.le_refl _) _ |>.mono (by omega)).grown hgr5 (by simp; omega) (fun j hj => (hown4.lt j hj).1))
    have B5 := B2.below l25
    have hrow : w5.ownsRow w2.heap.size 3 1 (.slice (some ⟨g5, 0, none⟩) (l.length + 5) cap5) (l.length + 5) ((l ++ [0, 0, 0, 0, 0]).map fun n => Value.int .i64 n) := by simpa using hown5
    have hcells : ∀ i x, ((l ++ [0, 0, 0, 0, 0]).take 5)[i]? = some x → w5.cell? ⟨g5, i, none⟩ = some (.int .i64 x) := fun i x hx => by
      obtain ⟨q1, q2⟩ := List.getElem?_eq_some_iff.1 hx
      have q3 : i < 5 := by rw [List.length_take] at q1; omega
      rw [row_get hrow (by omega) i (by simp; omega)]
      simp only [List.getElem_map]
      rw [← q2, List.getElem_take]
    rw [H5.out] at hcells
    have e0 := hcells 0 a rfl
    have e1 := hcells 1 b rfl
    have e2 := hcells 2 c rfl
    have e3 := hcells 3 d rfl
    have e4 := hcells 4 f rfl
    have l5 := l2.trans (l25.mono l2.size)
    obtain ⟨g0, g1, g2, g3, g4, g6, g7⟩ := acts_cells B5
    have z0 := B5.frozen 0
    have z1 := B5.frozen 1
    have z2 := B5.frozen 2
    have z3 := B5.frozen 3
    have z4 := B5.frozen 4
    have z5 := B5.frozen 5
    have z6 := B5.frozen 6
    clear hcells hrow hown5 hgr5 hat5 B2 l25
    go_wp2_with fail
    go_region
    go_wp2_with fail
    have hB6 : Blk ((((((((w5.setCell ⟨w.heap.size, 0, none⟩ (.int .i64 k)).setCell ⟨w.heap.size, 1, none⟩ (.int .i64 a)).setCell ⟨w.heap.size, 2, none⟩ (.int .i64 b)).setCell ⟨w.heap.size, 3, none⟩ (.int .i64 c)).setCell ⟨w.heap.size, 4, none⟩ (.int .i64 d)).setCell ⟨w.heap.size, 5, none⟩ (.int .i64 f)).setCell ⟨w.heap.size, 6, none⟩ (.slice none 0 0)).drew) w.heap.size #[.int .i64 k, .int .i64 a, .int .i64 b, .int .i64 c, .int .i64 d, .int .i64 f, .slice none 0 0] 24 := (((((((B5.set 0 (.int .i64 k)).set 1 (.int .i64 a)).set 2 (.int .i64 b)).set 3 (.int .i64 c)).set 4 (.int .i64 d)).set 5 (.int .i64 f)).set 6 (.slice none 0 0)).drewN 1
    have hS6 : Stays (fun j => j = w.heap.size) w5 ((((((((w5.setCell ⟨w.heap.size, 0, none⟩ (.int .i64 k)).setCell ⟨w.heap.size, 1, none⟩ (.int .i64 a)).setCell ⟨w.heap.size, 2, none⟩ (.int .i64 b)).setCell ⟨w.heap.size, 3, none⟩ (.int .i64 c)).setCell ⟨w.heap.size, 4, none⟩ (.int .i64 d)).setCell ⟨w.heap.size, 5, none⟩ (.int .i64 f)).setCell ⟨w.heap.size, 6, none⟩ (.slice none 0 0)).drew) := (((((((Stays.cell (.refl _ w5) 0 (.int .i64 k)).cell 1 (.int .i64 a)).cell 2 (.int .i64 b)).cell 3 (.int .i64 c)).cell 4 (.int .i64 d)).cell 5 (.int .i64 f)).cell 6 (.slice none 0 0)).drewN 1
    obtain ⟨w6, hw6⟩ : ∃ w6, w6 = ((((((((w5.setCell ⟨w.heap.size, 0, none⟩ (.int .i64 k)).setCell ⟨w.heap.size, 1, none⟩ (.int .i64 a)).setCell ⟨w.heap.size, 2, none⟩ (.int .i64 b)).setCell ⟨w.heap.size, 3, none⟩ (.int .i64 c)).setCell ⟨w.heap.size, 4, none⟩ (.int .i64 d)).setCell ⟨w.heap.size, 5, none⟩ (.int .i64 f)).setCell ⟨w.heap.size, 6, none⟩ (.slice none 0 0)).drew) := ⟨_, rfl⟩
    rw [← hw6] at hB6 hS6
    rw [← hw6]
    clear hw6
    have hl6 := l5.trans (hS6.below l5.size (fun j hj e => by omega))
    obtain ⟨y0, y1, y2, y3, y4, y5, y6⟩ := acts_cells hB6
    refine ⟨rfl, .tuple #[actV k a b c d f (.slice none 0 0), .bool true], ?_, hl6, k, a, b, c, d, f, .slice none 0 0, [], by rw [HB.out], .inl ⟨rfl, _, _, rfl⟩, ⟨⟨_, _, _, rfl⟩, .inl rfl⟩, fun _ => ⟨rfl, by unfold makeActL; rw [if_neg H17.out, H5.out]⟩⟩
    simp [results, Tryz.results69, go_sem, y0, y1, y2, y3, y4, y5, y6]
end Go.Proofs.YtddnmocoaahlfaaGreatDoor

namespace Go.Proofs.YtddnmocoaahlfaaGreatDoor
open Go.RowKit

theorem elem27 : Tryz.prog.underlying 27 = some (.slice (Tryz.prog.elem 27)) := by kernel_rfl
theorem elemz27 (w : World) : (sizeOf (Tryz.prog.elem 27)).run Tryz.prog w = .ok 1 w := by kernel_rfl
/-- A row of strings without its first one. -/
theorem tail27 (g o m c : Nat) (hc : m + 1 ≤ c) : ∃ A : Addr, (m ≠ 0 → A = ⟨g, o + 1, none⟩) ∧ ∀ w, (Instr.sliceAt 27 (.slice (some ⟨g, o, none⟩) (m + 1) c) (some (.int .i64 1)) none none).run Tryz.prog w = .ok (.slice (some A) m (c - 1)) w := by
  by_cases h1 : c = 1
  · subst h1
    refine ⟨⟨g, o, none⟩, fun h => by omega, fun w => ?_⟩
    rw [run_sliceAt_slice w 27 _ _ _ _ elem27, run_slice_l w 27 _ _ _ elem27 _ _ (by decide) (by omega), elemz27]
    simp [Result.andThen, sliced]
  · refine ⟨⟨g, o + 1, none⟩, fun _ => rfl, fun w => ?_⟩
    rw [run_sliceAt_slice w 27 _ _ _ _ elem27, run_slice_l w 27 _ _ _ elem27 _ _ (by decide) (by omega), elemz27]
    have : (1 : Int).toNat = 1 := rfl
    simp [Result.andThen, sliced, h1, Addr.add]
/-- The rest of a row of strings. -/
theorem srw_tail {w : World} {v : Value} {s : ByteArray} {st : List ByteArray} (h : SRw w v (s :: st)) : ∃ g o c, v = .slice (some ⟨g, o, none⟩) (st.length + 1) c ∧ st.length + 1 ≤ c ∧ w.cell? ⟨g, o, none⟩ = some (.string s) ∧
    ∃ A : Addr, (∀ w, (Instr.sliceAt 27 (.slice (some ⟨g, o, none⟩) (st.length + 1) c) (some (.int .i64 1)) none none).run Tryz.prog w = .ok (.slice (some A) st.length (c - 1)) w) ∧ SRw w (.slice (some A) st.length (c - 1)) st := by
  rcases h with ⟨h0, _⟩ | ⟨_, g, o, c, rfl, h2, h3⟩
  · cases h0
  · simp only [List.length_cons] at h2 ⊢
    obtain ⟨A, hA, hs⟩ := tail27 g o st.length c h2
    refine ⟨g, o, c, rfl, h2, h3 0 (by simp), A, hs, ?_⟩
    by_cases hst : st = []
    · subst hst; exact .inl ⟨rfl, _, _, rfl⟩
    · refine .inr ⟨hst, g, o + 1, c - 1, by rw [hA (fun e => hst (List.length_eq_zero_iff.1 e))], by omega, fun j hj => ?_⟩
      have := h3 (j + 1) (by simp; omega)
      rw [show o + 1 + j = o + (j + 1) by omega, this]
      rfl
end Go.Proofs.YtddnmocoaahlfaaGreatDoor

namespace Go.Proofs.YtddnmocoaahlfaaGreatDoor
open Go.RowKit Go.Shelf

/-- What reading numbers says, in one form. -/
def RetNb (w : World) (r : Option (List Int)) (e : Ending) (w' : World) : Prop := Below w.heap.size w w' ∧ ∃ (p : Option Addr) (n c : Nat) (l : List Int) (ok : Bool), e = .returned (.tuple #[.slice p n c, .bool ok]) ∧ NRow w' (.slice p n c) l ∧ (∀ L o, p = some ⟨L, o, none⟩ → w.heap.size ≤ L) ∧ l.length = n ∧ l.length ≤ 131072 + (r.elim 0 List.length) ∧ ok = r.isSome ∧ (∀ l', r = some l' → l = l')
theorem retNo_nb {w : World} {r : Option (List Int)} {e : Ending} {w' : World} (h : RetNo w r e w') : RetNb w r e w' := by
  obtain ⟨h1, h2⟩ := h
  cases r with
  | none => exact ⟨h1, none, 0, 0, [], false, h2, .inl ⟨rfl, _, _, rfl⟩, (fun L o h => by cases h), rfl, by simp, rfl, fun l' h => by cases h⟩
  | some l =>
    obtain ⟨v, rfl, h3⟩ := h2
    have h4 := nrow_of h3
    obtain ⟨a, c, rfl⟩ := h4.form
    exact ⟨h1, a, l.length, c, l, true, rfl, h4, (fun L o h => by subst h; exact (h3.lt L rfl).1), rfl, by simp, rfl, fun l' h => by cases h; rfl⟩
/-- It returns this act and this error. -/
def RetAE (w : World) (r : Act5 × Int) (e : Ending) (w' : World) : Prop := Below w.heap.size w w' ∧ ∃ (a b c d f : Int) (p : Option Addr) (n m : Nat), e = .returned (.tuple #[actV r.1.kind a b c d f (.slice p n m), .int .i64 r.2]) ∧ r.1.f = [a, b, c, d, f] ∧ NRow w' (.slice p n m) r.1.keep
theorem cut_cons (b : UInt8) (s : List UInt8) : ∃ u us, cutAt b s = u :: us := by
  obtain ⟨u, us, h⟩ := List.exists_cons_of_ne_nil (cutAt_ne b s)
  exact ⟨u, us, h⟩
theorem takes_len {k n : Nat} (h : takesR k n = true) : n ≤ 16 := by
  unfold takesR at h
  split at h
  · simpa using h
  · have := (refWord_le k).1
    simp at h
    omega
theorem takes_iff {k n : Nat} (h0 : k ≠ 0) (hk : k ≤ 17) : takesR k n = true ↔ ¬ ((k ≠ 17 ∧ n ≠ fieldsOf k) ∨ n > 16) := by
  have hf : (refWord k).2 = fieldsOf k := by unfold refWord; rw [if_neg (by omega)]; rfl
  have h5 := (refWord_le k).1
  rw [hf] at h5
  unfold takesR
  rw [hf]
  by_cases h17 : k = 17
  · rw [if_pos h17]; simp; omega
  · rw [if_neg h17]; simp; omega
theorem parseAct_bad {k : Nat} {ps : List (List UInt8)} {l : List Int} (h : undecAllL ps = some l) (hk : k ≤ 17) (h1 : k = 0 ∨ takesR k l.length = false) : parseAct k ps = (actZero, 4) := by
  unfold parseAct
  rw [h]
  simp only
  by_cases h0 : k = 0
  · rw [if_pos h0]
  · rw [if_neg h0, if_pos]
    have h2 := h1.resolve_left h0
    apply Classical.byContradiction
    intro hh
    rw [(takes_iff h0 hk).2 hh] at h2
    cases h2
theorem parseAct_ok {k : Nat} {ps : List (List UInt8)} {l : List Int} (h : undecAllL ps = some l) (hk : k ≤ 17) (h0 : k ≠ 0) (h1 : takesR k l.length = true) : parseAct k ps = (makeActL k l, 0) := by
  unfold parseAct
  rw [h]
  simp only
  rw [if_neg h0, if_neg ((takes_iff h0 hk).1 h1)]
theorem parseAct_none {k : Nat} {ps : List (List UInt8)} (h : undecAllL ps = none) : parseAct k ps = (actZero, 4) := by
  unfold parseAct
  rw [h]
theorem actOf_le17 (t : List UInt8) : actOfL t ≤ 17 := actOf_le t
theorem setRow_facts {w0 w5 : World} {R : Nat} {o : Obj} {cs c' : Array Value} (hB : Blk w5 R cs 24) (l5 : Below R w0 w5) : Blk ((w5.alloc o).setRow R c') R c' 24 ∧ Below R w0 ((w5.alloc o).setRow R c') ∧ Stays (fun k => k = R) w5 ((w5.alloc o).setRow R c') := by
  have h1 : Stays (fun k => k = R) w5 ((w5.alloc o).setRow R c') := ((Stays.refl _ w5).alloc o).trans ((setRow_stays (w5.alloc o) R c'))
  exact ⟨setRow_heap _ R cs c' 24 (hB.alloc o), l5.trans (h1.below (Nat.le_of_lt hB.lt) (fun j hj e => by omega)), h1⟩
set_option maxRecDepth 100000 in
set_option maxHeartbeats 8000000 in
theorem parseR_any {w : World} (s : ByteArray) (hs : s.size ≤ 65536) : Calls Tryz.prog 36 #[.string s] w (RetAE w (parseT (txt s))) := by
  obtain ⟨w1, hw1⟩ : ∃ w1, w1 = w.alloc (.cells #[.int .i64 0, .int .i64 0, .int .i64 0, .int .i64 0, .int .i64 0, .int .i64 0, .slice none 0 0] 24) := ⟨_, rfl⟩
  have l1 : Below w.heap.size w w1 := by rw [hw1]; exact (Below.refl _ _).alloc (Nat.le_refl _) _
  have bR : Blk w1 w.heap.size #[.int .i64 0, .int .i64 0, .int .i64 0, .int .i64 0, .int .i64 0, .int .i64 0, .slice none 0 0] 24 := by rw [hw1]; exact Blk.new w _ _
  obtain ⟨u, us, hcut⟩ := cut_cons 32 (txt s)
  obtain ⟨res, hres⟩ : ∃ res, res = parseT (txt s) := ⟨_, rfl⟩
  rw [parseT_of hcut] at hres
  rw [parseT_of hcut, ← hres]
  have hcl := (cut_len 32 (txt s)).2
  have hsz : (txt s).length = s.size := by simp
  rw [hcut] at hcl
  have hus : us.length ≤ 65536 := by simp at hcl; omega
  have hp := partsR_any (w := w1) s 32 (by omega)
  rw [hcut] at hp
  have HP := Lib.hid hp
  have HW := Lib.hid hw1
  have HRES := Lib.hid hres
  have HUS := Lib.hid hus
  clear hp hw1 hres hcl hsz hcut
  go_enter Tryz.func36, Tryz.ntmps36
  go_wp2_with fail
  rw [← HW.out]
  refine HP.out.mono ?_
  rintro e w2 ⟨b2, v, ss, rfl, hown, htx⟩
  have l2 := l1.trans (b2.mono l1.size)
  have B2 := bR.below b2
  obtain ⟨s0, st, rfl⟩ : ∃ s0 st, ss = s0 :: st := by
    cases ss with
    | nil => cases htx
    | cons a b => exact ⟨a, b, rfl⟩
  simp only [List.map_cons, List.cons.injEq] at htx
  obtain ⟨hu, hst⟩ := htx
  have hsr := (srow_of hown).rw
  obtain ⟨g, o, c, rfl, hc, hc0, A, hsl, htail⟩ := srw_tail hsr
  have hstl : st.length ≤ 131072 := by
    have : st.length = us.length := by rw [← hst]; simp
    have := HUS.out
    omega
  have HN := Lib.hid (numbersR_any htail hstl)
  have HSL := Lib.hid hsl
  have HU := Lib.hid hu
  have HST := Lib.hid hst
  have HB2 := Lib.hid B2
  clear bR hown hsr htail hsl hu hst B2 HP
  go_wp2_with (refine wpList_val (o := ⟨some 13, _, _, _, _, _⟩) rfl (Instr.sliceAt 27 _ _ _ _) rfl _ (HSL.out _) ?_)
  refine HN.out.mono ?_
  intro e w3 h3
  obtain ⟨b3, p, n, cn, l, ok, rfl, hnr, hpl, hln, hle, hok, hlv⟩ := retNo_nb h3
  subst hln
  have l3 := l2.trans (b3.mono l2.size)
  have c0 := cell_below hc0 b3
  have HK := Lib.hid (kindR_any s0 w3)
  rw [HU.out] at HK
  have HNR := Lib.hid hnr
  have HOK := Lib.hid hok
  have HLV := Lib.hid hlv
  have hk17 := actOf_le17 u
  clear h3 hnr hok hlv HN hc0
  generalize hkk : actOfL u = k at *
  have HKK := Lib.hid hkk
  clear hkk
  have hl131 : l.length ≤ 131072 := by
    cases hr : undecAllL (st.map txt) with
    | none =>
      rw [hr] at hle
      exact hle
    | some l' =>
      have := HLV.out l' hr
      subst this
      have h2 := (undecAll_iff.1 hr).2
      have := congrArg List.length h2
      simp at this
      omega
  go_wp2_with fail
  refine HK.out.mono ?_
  rintro e w4 ⟨rfl, b4⟩
  have l4 := l3.trans (b4.mono l3.size)
  have HO := Lib.hid (ofR_any hk17 (HNR.out.below b4) hl131)
  go_wp2_with fail
  refine HO.out.mono ?_
  rintro e w5 ⟨b5, k', a, b, cc, d, f, kv, kp, rfl, hnr5, ⟨⟨kp1, kn1, kc1, rfl⟩, hkv⟩, himp⟩
  have l5 := l4.trans (b5.mono l4.size)
  have B5 := ((HB2.out.below b3).below b4).below b5
  have HNR5 := Lib.hid hnr5
  have HIM := Lib.hid himp
  have HKV := Lib.hid hkv
  have HPL := Lib.hid hpl
  have HSZ := Lib.hid (show w.heap.size < w2.heap.size from HB2.out.lt)
  have HK17 := Lib.hid hk17
  generalize htk : takesR k l.length = tk at *
  have HTK := Lib.hid htk
  clear hnr5 himp hkv hpl hk17 htk b2 b3 b4 b5 HO HB2 hl131
  cases ok with
  | false =>
    have hun : undecAllL us = none := by
      rw [← HST.out]
      cases hr : undecAllL (st.map txt) with
      | none => rfl
      | some l' => have := HOK.out; rw [hr] at this; cases this
    have HUN := Lib.hid hun
    clear hun
    have hr : res = (actZero, 4) := by rw [HRES.out]; exact parseAct_none HUN.out
    subst hr
    go_wp2_with (refine wpList_unit (o := ⟨none, Op.store 24 (.tmp 2) _, _, _, _, _⟩) rfl rfl (Instr.storeAt 24 _ _) rfl (blk_store (c' := #[.int .i64 0, .int .i64 0, .int .i64 0, .int .i64 0, .int .i64 0, .int .i64 0, .slice none 0 0]) (B5.alloc _) size24 rfl rfl) ?_)
    obtain ⟨hB7, hl7, _⟩ := setRow_facts (o := .cells #[.int .i64 k', .int .i64 a, .int .i64 b, .int .i64 cc, .int .i64 d, .int .i64 f, .slice kp1 kn1 kc1] 24) (c' := #[.int .i64 0, .int .i64 0, .int .i64 0, .int .i64 0, .int .i64 0, .int .i64 0, .slice none 0 0]) B5 l5
    obtain ⟨w7, hw7⟩ : ∃ w7, w7 = (w5.alloc (.cells #[.int .i64 k', .int .i64 a, .int .i64 b, .int .i64 cc, .int .i64 d, .int .i64 f, .slice kp1 kn1 kc1] 24)).setRow w.heap.size #[.int .i64 0, .int .i64 0, .int .i64 0, .int .i64 0, .int .i64 0, .int .i64 0, .slice none 0 0] := ⟨_, rfl⟩
    rw [← hw7] at hB7 hl7
    rw [← hw7]
    obtain ⟨y0, y1, y2, y3, y4, y5, y6⟩ := acts_cells hB7
    refine ⟨rfl, .tuple #[actV 0 0 0 0 0 0 (.slice none 0 0), .int .i64 4], ?_, hl7, 0, 0, 0, 0, 0, none, 0, 0, rfl, rfl, .inl ⟨rfl, _, _, rfl⟩⟩
    simp [results, Tryz.results36, go_sem, y0, y1, y2, y3, y4, y5, y6]
  | true =>
    have hun : undecAllL us = some l := by
      rw [← HST.out]
      cases hr : undecAllL (st.map txt) with
      | none => have := HOK.out; rw [hr] at this; cases this
      | some l' => rw [HLV.out l' hr]
    have HUN := Lib.hid hun
    clear hun
    cases tk with
    | false =>
      have hr : res = (actZero, 4) := by rw [HRES.out]; exact parseAct_bad HUN.out HK17.out (.inr HTK.out)
      subst hr
      go_wp2_with (refine wpList_unit (o := ⟨none, Op.store 24 (.tmp 2) _, _, _, _, _⟩) rfl rfl (Instr.storeAt 24 _ _) rfl (blk_store (c' := #[.int .i64 0, .int .i64 0, .int .i64 0, .int .i64 0, .int .i64 0, .int .i64 0, .slice none 0 0]) (B5.alloc _) size24 rfl rfl) ?_)
      obtain ⟨hB7, hl7, _⟩ := setRow_facts (o := .cells #[.int .i64 k', .int .i64 a, .int .i64 b, .int .i64 cc, .int .i64 d, .int .i64 f, .slice kp1 kn1 kc1] 24) (c' := #[.int .i64 0, .int .i64 0, .int .i64 0, .int .i64 0, .int .i64 0, .int .i64 0, .slice none 0 0]) B5 l5
      obtain ⟨w7, hw7⟩ : ∃ w7, w7 = (w5.alloc (.cells #[.int .i64 k', .int .i64 a, .int .i64 b, .int .i64 cc, .int .i64 d, .int .i64 f, .slice kp1 kn1 kc1] 24)).setRow w.heap.size #[.int .i64 0, .int .i64 0, .int .i64 0, .int .i64 0, .int .i64 0, .int .i64 0, .slice none 0 0] := ⟨_, rfl⟩
      rw [← hw7] at hB7 hl7
      rw [← hw7]
      obtain ⟨y0, y1, y2, y3, y4, y5, y6⟩ := acts_cells hB7
      refine ⟨rfl, .tuple #[actV 0 0 0 0 0 0 (.slice none 0 0), .int .i64 4], ?_, hl7, 0, 0, 0, 0, 0, none, 0, 0, rfl, rfl, .inl ⟨rfl, _, _, rfl⟩⟩
      simp [results, Tryz.results36, go_sem, y0, y1, y2, y3, y4, y5, y6]
    | true =>
      obtain ⟨rfl, hmk⟩ := HIM.out rfl
      by_cases hk0 : k = 0
      · have d0 : ((k : Int) == 0) = true := by simp [hk0]
        have HK0 := Lib.hid hk0
        clear hk0
        have hr : res = (actZero, 4) := by rw [HRES.out]; exact parseAct_bad HUN.out HK17.out (.inl HK0.out)
        subst hr
        go_wp2_with (refine wpList_unit (o := ⟨none, Op.store 24 (.tmp 2) _, _, _, _, _⟩) rfl rfl (Instr.storeAt 24 _ _) rfl (blk_store (c' := #[.int .i64 0, .int .i64 0, .int .i64 0, .int .i64 0, .int .i64 0, .int .i64 0, .slice none 0 0]) (B5.alloc _) size24 rfl rfl) ?_)
        obtain ⟨hB7, hl7, _⟩ := setRow_facts (o := .cells #[.int .i64 k, .int .i64 a, .int .i64 b, .int .i64 cc, .int .i64 d, .int .i64 f, .slice kp1 kn1 kc1] 24) (c' := #[.int .i64 0, .int .i64 0, .int .i64 0, .int .i64 0, .int .i64 0, .int .i64 0, .slice none 0 0]) B5 l5
        obtain ⟨w7, hw7⟩ : ∃ w7, w7 = (w5.alloc (.cells #[.int .i64 k, .int .i64 a, .int .i64 b, .int .i64 cc, .int .i64 d, .int .i64 f, .slice kp1 kn1 kc1] 24)).setRow w.heap.size #[.int .i64 0, .int .i64 0, .int .i64 0, .int .i64 0, .int .i64 0, .int .i64 0, .slice none 0 0] := ⟨_, rfl⟩
        rw [← hw7] at hB7 hl7
        rw [← hw7]
        obtain ⟨y0, y1, y2, y3, y4, y5, y6⟩ := acts_cells hB7
        refine ⟨rfl, .tuple #[actV 0 0 0 0 0 0 (.slice none 0 0), .int .i64 4], ?_, hl7, 0, 0, 0, 0, 0, none, 0, 0, rfl, rfl, .inl ⟨rfl, _, _, rfl⟩⟩
        simp [results, Tryz.results36, go_sem, y0, y1, y2, y3, y4, y5, y6]
      · have d0 : ((k : Int) == 0) = false := by simp; omega
        have hr : res = (makeActL k l, 0) := by rw [HRES.out]; exact parseAct_ok HUN.out HK17.out hk0 HTK.out
        rw [hmk] at hr
        subst hr
        clear hk0 hmk
        go_wp2_with (refine wpList_unit (o := ⟨none, Op.store 24 (.tmp 2) _, _, _, _, _⟩) rfl rfl (Instr.storeAt 24 _ _) rfl (blk_store (c' := #[.int .i64 k, .int .i64 a, .int .i64 b, .int .i64 cc, .int .i64 d, .int .i64 f, .slice kp1 kn1 kc1]) (B5.alloc _) size24 rfl rfl) ?_)
        obtain ⟨hB7, hl7, hs7⟩ := setRow_facts (o := .cells #[.int .i64 k, .int .i64 a, .int .i64 b, .int .i64 cc, .int .i64 d, .int .i64 f, .slice kp1 kn1 kc1] 24) (c' := #[.int .i64 k, .int .i64 a, .int .i64 b, .int .i64 cc, .int .i64 d, .int .i64 f, .slice kp1 kn1 kc1]) B5 l5
        obtain ⟨w7, hw7⟩ : ∃ w7, w7 = (w5.alloc (.cells #[.int .i64 k, .int .i64 a, .int .i64 b, .int .i64 cc, .int .i64 d, .int .i64 f, .slice kp1 kn1 kc1] 24)).setRow w.heap.size #[.int .i64 k, .int .i64 a, .int .i64 b, .int .i64 cc, .int .i64 d, .int .i64 f, .slice kp1 kn1 kc1] := ⟨_, rfl⟩
        rw [← hw7] at hB7 hl7 hs7
        rw [← hw7]
        obtain ⟨y0, y1, y2, y3, y4, y5, y6⟩ := acts_cells hB7
        have hnr7 : NRow w7 (.slice kp1 kn1 kc1) kp := nrow_stays HNR5.out hs7 (fun L o c h h0 => by
          injection h with h _ _
          subst h
          rcases HKV.out with h | h
          · cases h
          · injection h with h _ _
            have := HPL.out L o h.symm
            have := HSZ.out
            intro e
            omega)
        refine ⟨rfl, .tuple #[actV k a b cc d f (.slice kp1 kn1 kc1), .int .i64 0], ?_, hl7, a, b, cc, d, f, kp1, kn1, kc1, rfl, rfl, hnr7⟩
        simp [results, Tryz.results36, go_sem, y0, y1, y2, y3, y4, y5, y6]
end Go.Proofs.YtddnmocoaahlfaaGreatDoor

namespace Go.Proofs.YtddnmocoaahlfaaGreatDoor
open Go.RowKit Go.Shelf

theorem atoi3 (l : List UInt8) : (∃ v, Lib.atoiAll l = .ok v) ∨ Lib.atoiAll l = .range ∨ Lib.atoiAll l = Lib.atoiAll [] := by
  cases h : Lib.atoiAll l with
  | ok v => exact .inl ⟨v, rfl⟩
  | range => exact .inr (.inl rfl)
  | _ => exact .inr (.inr rfl)
/-- What Atoi ends in. -/
def RetAt (w : World) (l : List UInt8) (e : Ending) (w' : World) : Prop := Below w.heap.size w w' ∧ ((∃ v, e = .returned (.tuple #[.int .i64 v, .nilIface]) ∧ Lib.atoiAll l = .ok v) ∨ (∃ x N, e = .returned (.tuple #[.int .i64 x, .iface 229 (.pointer (some ⟨N, 0, none⟩))]) ∧ undecL l = none))
theorem atoi_any {w : World} (hr : ErrR w) (hs : ErrS w) (s : ByteArray) (hsz : s.size ≤ 65536) : Calls Tryz.prog 122 #[.string s] w (RetAt w (txt s)) := by
  rcases atoi3 (txt s) with ⟨v, h⟩ | h | h
  · refine (Tryz.strconv_Atoi_ok s (by omega) v h w).mono ?_
    rintro e w' ⟨rfl, rfl | ⟨t, rfl⟩⟩
    · exact ⟨Below.refl _ _, .inl ⟨v, rfl, h⟩⟩
    · exact ⟨Go.Joins.below_bytesWorld _ _ _ _ (Nat.le_refl _), .inl ⟨v, rfl, h⟩⟩
  · obtain ⟨ev, h1, h2⟩ := hr
    refine (Tryz.strconv_Atoi_range s (by omega) h ev w h1 h2).mono ?_
    rintro e w' ⟨N, rfl, _, _, hb⟩
    exact ⟨hb, .inr ⟨_, N, rfl, by unfold undecL; rw [h]⟩⟩
  · obtain ⟨ev, h1, h2⟩ := hs
    refine (Tryz.strconv_Atoi_syntax s (by omega) h ev w h1 h2).mono ?_
    rintro e w' ⟨N, rfl, _, _, hb⟩
    exact ⟨hb, .inr ⟨_, N, rfl, by unfold undecL; rw [h]; rfl⟩⟩
/-- What undec ends in. -/
def RetUn (w : World) (l : List UInt8) (e : Ending) (w' : World) : Prop := Below w.heap.size w w' ∧ ∃ x b, e = .returned (.tuple #[.int .i64 x, .bool b]) ∧ b = (undecL l).isSome ∧ ∀ v, undecL l = some v → x = v
set_option maxRecDepth 100000 in
set_option maxHeartbeats 4000000 in
theorem undec_any {w : World} (he : Env w) (s : ByteArray) (hsz : s.size ≤ 65536) : Calls Tryz.prog 79 #[.string s] w (RetUn w (txt s)) := by
  have HA := Lib.hid (atoi_any he.errR he.errS s hsz)
  have HE := Lib.hid he
  clear he
  go_enter Tryz.func79, Tryz.ntmps79
  go_wp2_with fail
  refine HA.out.mono ?_
  rintro e w1 ⟨b1, ⟨v, rfl, h⟩ | ⟨x, N, rfl, h⟩⟩
  · have HD := Lib.hid (dec_any (tab_below HE.out.tab b1) (Lib.atoiAll_bounds h))
    have hu : undecL (txt s) = if Lib.itoa v = txt s then some v else none := by unfold undecL; rw [h]
    have HU := Lib.hid hu
    clear h hu
    go_wp2_with fail
    refine HD.out.mono ?_
    rintro e w2 ⟨b2, sd, rfl, hsd⟩
    have hb : (sd.toList == s.toList) = decide (Lib.itoa v = txt s) := by rw [ByteArray.toList_eq s, lit_str', hsd]
    have HB := Lib.hid hb
    clear hsd hb
    go_wp2_with fail
    go_ret2
    refine ⟨b1.trans (b2.mono b1.size), v, _, rfl, ?_, ?_⟩
    · rw [HB.out, HU.out]
      by_cases he : Lib.itoa v = txt s
      · simp [he]
      · simp [he]
    · intro v' hv'
      rw [HU.out] at hv'
      split at hv'
      · injection hv'
      · cases hv'
  · have HU := Lib.hid h
    clear h
    go_wp2_with fail
    go_ret2
    exact ⟨b1, x, false, rfl, by rw [HU.out]; rfl, fun v hv => by rw [HU.out] at hv; cases hv⟩
set_option maxRecDepth 100000 in
set_option maxHeartbeats 8000000 in
theorem undecAll_any {w : World} (he : Env w) {v : Value} {ss : List ByteArray} (hr : SRw w v ss) (hl : ss.length ≤ 131072) (hsz : ∀ x ∈ ss, x.size ≤ 65536) : Calls Tryz.prog 45 #[v] w (RetNo w (undecAllL (ss.map txt))) := by
  obtain ⟨i0, hi, hz0, hz1, hz2⟩ := info_parts info3
  obtain ⟨p, c, rfl⟩ := hr.form
  have HR := Lib.hid hr
  have HE := Lib.hid he
  have HSZ := Lib.hid hsz
  obtain ⟨res, hres⟩ : ∃ res, res = undecAllL (ss.map txt) := ⟨_, rfl⟩
  rw [← hres]
  have HS := Lib.hid hres
  have hcap : ss = [] ∨ ss.length ≤ c := by
    rcases hr with ⟨rfl, _⟩ | ⟨_, L, o, c', h1, h2, h3⟩
    · exact .inl rfl
    · injection h1 with _ _ h1; subst h1; exact .inr h2
  clear hres hr he hsz
  go_enter Tryz.func45, Tryz.ntmps45
  go_wp2_with fail
  go_loopw [11, 4] (fun t v4 wr => ∃ (k : Nat) (ns : List Int), t = .int .i64 k ∧ k ≤ ss.length ∧ ns.length = k ∧ wr.ownsRow w.heap.size 3 1 v4 ns.length (ns.map fun n => Value.int .i64 n) ∧ numsFrom ns ((ss.drop k).map txt) = res ∧ Below w.heap.size w wr) (fun t v4 wr => ss.length - (intOf t).toNat)
  case atStart => exact ⟨0, [], rfl, Nat.zero_le _, rfl, World.ownsRow_nil _ _ _ _, by rw [List.drop_zero, numsFrom_start]; exact HS.out.symm, Below.refl _ _⟩
  case round =>
    obtain ⟨k, ns, rfl, hk, hnk, hown, hev, hbl⟩ := hrel
    have hszr := hbl.size
    have HNK := Lib.hid hnk
    have hnl : ns.length ≤ 131072 := by omega
    clear hnk
    by_cases hlt : k < ss.length
    · obtain ⟨L, o, rfl, ck0⟩ := srw_get HR.out hlt
      have ck := cell_below ck0 hbl
      have hcc : ss.length ≤ c := hcap.resolve_left (fun e => by rw [e] at hlt; simp at hlt)
      rw [drop_map hlt] at hev
      have HE2 := Lib.hid hev
      have hxs := HSZ.out ss[k] (List.getElem_mem hlt)
      generalize ss[k] = x at *
      have HRD := Lib.hid (undec_any (HE.out.below hbl) x hxs)
      clear hev ck0
      cases hu : undecL (txt x) with
      | none =>
        have hrn : res = none := by rw [← HE2.out, numsFrom_stop hu]
        have HRN := Lib.hid hrn
        have HU := Lib.hid hu
        clear hrn hu
        go_wp2_with fail
        refine HRD.out.mono ?_
        rintro e w1 ⟨b1, n, b, rfl, hb, _⟩
        rw [HU.out] at hb
        have hb' : b = false := hb
        subst hb'
        clear hb
        go_wp2_with fail
        go_ret2
        unfold RetNo
        rw [HRN.out]
        exact ⟨hbl.trans (b1.mono hszr), rfl⟩
      | some n =>
        have hnx := numsFrom_next (ns := ns) (r := (ss.drop (k + 1)).map txt) hu
        have HNX := Lib.hid hnx
        have HU := Lib.hid hu
        clear hnx hu
        go_wp2_with fail
        refine HRD.out.mono ?_
        rintro e w1 ⟨b1, x1, b, rfl, hb, hv1⟩
        rw [HU.out] at hb
        have hb' : b = true := hb
        have hx1 : x1 = n := hv1 n HU.out
        subst hb'
        subst hx1
        clear hb hv1
        have hown1 : w1.ownsRow w.heap.size 3 1 _ ns.length (ns.map fun n => Value.int .i64 n) := row_keep hown (fun j hj => b1.block j (hown.lt j hj).2)
        have hbl1 := hbl.trans (b1.mono hszr)
        have hsz1 := hbl1.size
        go_wp2_with (at_builtin; refine wpList_append_lies _ rfl _ _ 22 rfl w.heap.size 3 i0 (.int .i64 0) 1 8 Tryz.underlying22 hi hz0 hz1 hz2 rfl (by decide) _ _ _ rfl (hown1.alloc _) ⟨w1.heap.size, 0, none⟩ 1 1 [.int .i64 x1] rfl rfl (one_new _ _ _) (by simp [Value.oneCell']) (by decide) (by unfold maxLen; omega) (by omega) (by simp; omega) _ rfl ?_; intro g cap2 w2 hown2 hgr hat hg2)
        have hbl2 : Below w.heap.size w w2 := (hbl1.alloc hsz1 _).grown hgr (by simp; omega) (fun j hj => (hown.lt j hj).1)
        go_wp2_with fail
        go_roundw
        case rel => exact ⟨k + 1, ns ++ [x1], by go_num, by omega, by simp [HNK.out], by simpa using hown2, by rw [← HNX.out]; exact HE2.out, hbl2⟩
        case measure => simp [intOf]; omega
    · have hkk : k = ss.length := by omega
      have hrn : res = some ns := by rw [← hev, List.drop_of_length_le (by omega), List.map_nil, numsFrom_end]
      have HRN := Lib.hid hrn
      clear hrn hev
      go_wp2_with fail
      go_ret2
      unfold RetNo
      rw [HRN.out]
      exact ⟨hbl, _, rfl, hown⟩
end Go.Proofs.YtddnmocoaahlfaaGreatDoor

namespace Go.Proofs.YtddnmocoaahlfaaGreatDoor
open Go.RowKit Go.Shelf

theorem line_snoc (w : List UInt8) (l : List Int) (n : Int) : lineT w (l ++ [n]) = lineT w l ++ 32 :: Lib.itoa n := by unfold lineT; simp
theorem short_num {n : Int} (hn : I64 n) {s : ByteArray} (h : txt s = Lib.itoa n) : s.size ≤ 40 := by
  have : (txt s).length = s.size := by simp
  rw [← this, h]; exact itoa_text.short n hn.1 hn.2
set_option maxRecDepth 100000 in
set_option maxHeartbeats 8000000 in
theorem textR_any {w : World} {k a b c d e : Int} {kv : Value} {kp : List Int} (hi : ∀ n ∈ [a, b, c, d, e] ++ kp, I64 n) (hkv : NRow w kv kp) (hm : kp.length ≤ maxLen) : Calls Tryz.prog 28 #[actV k a b c d e kv] w (RetTE w (textT k [a, b, c, d, e] kp)) := by
  obtain ⟨p1, cc, rfl⟩ := hkv.form
  have hm' : kp.length ≤ 9223372036854775807 := by unfold maxLen at hm; omega
  obtain ⟨w1, hw1⟩ : ∃ w1, w1 = w.alloc (.cells #[.int .i64 k, .int .i64 a, .int .i64 b, .int .i64 c, .int .i64 d, .int .i64 e, .slice p1 kp.length cc] 24) := ⟨_, rfl⟩
  have l1 : Below w.heap.size w w1 := by rw [hw1]; exact (Below.refl _ _).alloc (Nat.le_refl _) _
  have bR : Blk w1 w.heap.size #[.int .i64 k, .int .i64 a, .int .i64 b, .int .i64 c, .int .i64 d, .int .i64 e, .slice p1 kp.length cc] 24 := by rw [hw1]; exact Blk.new w _ _
  have hval := valid_any (k := k) (a := a) (b := b) (c := c) (d := d) (e := e) (hkv.below l1) hm
  obtain ⟨res, hres⟩ : ∃ res, res = textT k [a, b, c, d, e] kp := ⟨_, rfl⟩
  rw [← hres] at hval ⊢
  have HW := Lib.hid hw1
  by_cases h0 : res.2 = 0
  rotate_left
  · rw [decide_eq_false h0] at hval
    have hb : res = ([], 2) := by rw [hres]; exact text_bad (by rw [← hres]; exact h0)
    have HB := Lib.hid hb
    have HV := Lib.hid hval
    clear hb hval hw1 hkv hi h0 hres bR
    go_enter Tryz.func28, Tryz.ntmps28
    go_wp2_with fail
    rw [← HW.out]
    refine HV.out.mono ?_
    rintro ex w2 ⟨b2, rfl⟩
    go_wp2_with fail
    go_ret2
    unfold RetTE
    rw [HB.out]
    exact ⟨l1.trans (b2.mono l1.size), _, rfl, rfl⟩
  rw [decide_eq_true h0] at hval
  obtain ⟨f, hf⟩ : ∃ f : List Int, f = [a, b, c, d, e] := ⟨_, rfl⟩
  have hfl : f.length = 5 := by rw [hf]; rfl
  have hcf : ∀ i (h : i < f.length), (#[.int .i64 a, .int .i64 b, .int .i64 c, .int .i64 d, .int .i64 e] : Array Value)[i]? = some (.int .i64 f[i]) := fun i h => by
    have h5 : i < 5 := by omega
    subst hf
    match i, h5 with
    | 0, _ => rfl
    | 1, _ => rfl
    | 2, _ => rfl
    | 3, _ => rfl
    | 4, _ => rfl
  rw [← hf] at hi hres
  have hgd := text_good (k := k) (keep := kp) hfl (by rw [← hres]; exact h0)
  rw [← hres] at hgd
  obtain ⟨hg1, hg2⟩ := hgd
  have HV := Lib.hid hval
  have hn5 := (refWord_le k).1
  have hw64 := (refWord_le k).2
  have HWD0 := Lib.hid (fun W => word_any k W)
  generalize hwd : (refWord k).1 = wd at *
  generalize hnn : (refWord k).2 = n at *
  have HG := Lib.hid hg1
  have HCF := Lib.hid hcf
  have HFL := Lib.hid hfl
  have HI := Lib.hid hi
  have HK := Lib.hid hkv
  clear hkv hw1 hcf hwd hnn hf hg1 hres hval h0 hi
  go_enter Tryz.func28, Tryz.ntmps28
  go_wp2_with fail
  rw [← HW.out]
  refine HV.out.mono ?_
  rintro ex w2 ⟨b2, rfl⟩
  have l2 := l1.trans (b2.mono l1.size)
  have HB2 := Lib.hid (bR.below b2)
  have s0 : w2.cell? ⟨w.heap.size, 0, none⟩ = some (.int .i64 k) := (HB2.out.cell 0).trans rfl
  have HWD := Lib.hid (HWD0.out w2)
  clear bR HV HW HWD0
  go_wp2_with fail
  refine HWD.out.mono ?_
  rintro ex w3 ⟨b3, sw, rfl, hsw⟩
  have l3 := l2.trans (b3.mono l2.size)
  have HB3 := Lib.hid (HB2.out.below b3)
  clear s0
  have s0 : w3.cell? ⟨w.heap.size, 0, none⟩ = some (.int .i64 k) := (HB3.out.cell 0).trans rfl
  have s1 : w3.cell? ⟨w.heap.size, 1, none⟩ = some (.int .i64 a) := (HB3.out.cell 1).trans rfl
  have s2 : w3.cell? ⟨w.heap.size, 2, none⟩ = some (.int .i64 b) := (HB3.out.cell 2).trans rfl
  have s3 : w3.cell? ⟨w.heap.size, 3, none⟩ = some (.int .i64 c) := (HB3.out.cell 3).trans rfl
  have s4 : w3.cell? ⟨w.heap.size, 4, none⟩ = some (.int .i64 d) := (HB3.out.cell 4).trans rfl
  have s5 : w3.cell? ⟨w.heap.size, 5, none⟩ = some (.int .i64 e) := (HB3.out.cell 5).trans rfl
  have s6 : w3.cell? ⟨w.heap.size, 6, none⟩ = some (.slice p1 kp.length cc) := (HB3.out.cell 6).trans rfl
  have HFD := Lib.hid (fields_any (w := w3) (k := k) (a := a) (b := b) (c := c) (d := d) (e := e) ⟨p1, kp.length, cc, rfl⟩)
  have hswl : sw.size ≤ 64 := by
    have : (txt sw).length = sw.size := by simp
    rw [← this, hsw]; exact hw64
  have HS := Lib.hid hsw
  clear hsw HWD HB2
  go_wp2_with fail
  refine HFD.out.mono ?_
  rintro ex w4 ⟨rfl, b4⟩
  clear s0 s1 s2 s3 s4 s5 s6
  have l4 := l3.trans (b4.mono l3.size)
  obtain ⟨w5, hw5⟩ : ∃ w5, w5 = w4.alloc (.cells #[.int .i64 a, .int .i64 b, .int .i64 c, .int .i64 d, .int .i64 e] 90) := ⟨_, rfl⟩
  have b5 : Blk w5 w4.heap.size #[.int .i64 a, .int .i64 b, .int .i64 c, .int .i64 d, .int .i64 e] 90 := by rw [hw5]; exact Blk.new w4 _ _
  have l45 : Below w4.heap.size w4 w5 := by rw [hw5]; exact (Below.refl _ _).alloc (Nat.le_refl _) _
  have c6 : w5.cell? ⟨w.heap.size, 6, none⟩ = some (.slice p1 kp.length cc) := ((Blk.below (Blk.below HB3.out b4) l45).cell 6).trans rfl
  have l5 := l4.trans (l45.mono l4.size)
  have hc5 : ∀ i (h : i < f.length), w5.cell? ⟨w4.heap.size, i, none⟩ = some (.int .i64 f[i]) := fun i h => by rw [b5.cell i]; exact HCF.out i h
  have HC5 := Lib.hid hc5
  have HK5 := Lib.hid (HK.out.below l5)
  have H5 := Lib.hid hw5
  have L1 : (⟨#[32]⟩ : ByteArray).size = 1 := rfl
  clear hc5 b5 hw5 HFD HCF
  go_wp2_with fail
  rw [← H5.out]
  go_loop [7, 4] (fun t v => ∃ (i : Nat) (sp : ByteArray), t = .int .i64 i ∧ i ≤ n ∧ v = .string sp ∧ txt sp = lineT wd (f.take i) ∧ sp.size ≤ 64 + 41 * i) (fun t v => n - (intOf t).toNat)
  case atStart => exact ⟨0, sw, rfl, Nat.zero_le _, rfl, by rw [HS.out, List.take_zero]; simp [lineT], by omega⟩
  case round =>
    obtain ⟨i, sp, rfl, hin, rfl, hsp, hsz⟩ := hrel
    have HSP := Lib.hid hsp
    clear hsp
    by_cases hlt : i < n
    · have dl : decide ((i : Int) < (n : Int)) = true := decide_eq_true (by omega)
      have hqi : i < f.length := by have := HFL.out; omega
      have hci := HC5.out i hqi
      have hxi : I64 f[i] := HI.out _ (by simp)
      have hst : f.take (i + 1) = f.take i ++ [f[i]] := List.take_succ_eq_append_getElem hqi
      obtain ⟨x, hx⟩ : ∃ x, x = f[i] := ⟨_, rfl⟩
      rw [← hx] at hci hxi hst
      have HST := Lib.hid hst
      have HN := Lib.hid (number_any hxi w5)
      have HXI := Lib.hid hxi
      have hc1 := cat_ok (a := sp) (b := ⟨#[32]⟩) (by omega)
      clear hx hst hxi
      go_wp2_with fail
      refine HN.out.mono ?_
      rintro ex w6 ⟨s1, rfl, t1, rfl⟩
      have y1 := short_num HXI.out t1
      have hc2 := cat_ok (a := sp ++ ⟨#[32]⟩) (b := s1) (by simp only [ByteArray.size_append]; omega)
      have T1 := Lib.hid t1
      clear t1
      go_wp2_with fail
      go_round
      case rel => exact ⟨i + 1, _, by go_num, by omega, rfl, by rw [HST.out, line_snoc, txt_append, txt_append, HSP.out, T1.out]; simp; rfl, by simp only [ByteArray.size_append]; omega⟩
      case measure => simp [intOf]; omega
    · have hin2 : i = n := by omega
      have dl : decide ((i : Int) < (n : Int)) = false := decide_eq_false (by omega)
      have hsp2 : txt sp = lineT wd (f.take n ++ kp.take 0) := by rw [HSP.out, hin2, List.take_zero, List.append_nil]
      have HSP2 := Lib.hid hsp2
      clear HSP hsp2 hin2
      go_wp2_with fail
      go_loop [8, 4] (fun t v => ∃ (j : Nat) (sp : ByteArray), t = .int .i64 j ∧ j ≤ kp.length ∧ v = .string sp ∧ txt sp = lineT wd (f.take n ++ kp.take j) ∧ sp.size ≤ 300 + 41 * j) (fun t v => kp.length - (intOf t).toNat)
      case atStart => exact ⟨0, sp, rfl, Nat.zero_le _, rfl, HSP2.out, by omega⟩
      case round =>
        obtain ⟨j, sp, rfl, hjn, rfl, hsp, hsz⟩ := hrel
        have HSP := Lib.hid hsp
        clear hsp
        by_cases hlt : j < kp.length
        · obtain ⟨L, o, rfl, ck⟩ := nrow_get HK5.out hlt
          have hcap : kp.length ≤ cc := (nrow_cap HK5.out).resolve_left (fun e => by rw [e] at hlt; simp at hlt)
          have hxi : I64 kp[j] := HI.out _ (by simp)
          have hst : kp.take (j + 1) = kp.take j ++ [kp[j]] := List.take_succ_eq_append_getElem hlt
          obtain ⟨x, hx⟩ : ∃ x, x = kp[j] := ⟨_, rfl⟩
          rw [← hx] at ck hxi hst
          have HST := Lib.hid hst
          have HN := Lib.hid (number_any hxi w5)
          have HXI := Lib.hid hxi
          have hc1 := cat_ok (a := sp) (b := ⟨#[32]⟩) (by omega)
          clear hx hst hxi
          go_wp2_with fail
          refine HN.out.mono ?_
          rintro ex w6 ⟨s1, rfl, t1, rfl⟩
          have y1 := short_num HXI.out t1
          have hc2 := cat_ok (a := sp ++ ⟨#[32]⟩) (b := s1) (by simp only [ByteArray.size_append]; omega)
          have T1 := Lib.hid t1
          clear t1
          go_wp2_with fail
          go_round
          case rel => exact ⟨j + 1, _, by go_num, by omega, rfl, by rw [HST.out, ← List.append_assoc, line_snoc, txt_append, txt_append, HSP.out, T1.out]; simp; rfl, by simp only [ByteArray.size_append]; omega⟩
          case measure => simp [intOf]; omega
        · have hjk : j = kp.length := by omega
          have hfin : txt sp = lineT wd (f.take n ++ kp) := by rw [HSP.out, List.take_of_length_le (show kp.length ≤ j by omega)]
          have HF := Lib.hid hfin
          clear hfin HSP
          go_wp2_with fail
          go_ret2
          unfold RetTE
          rw [HG.out]
          exact ⟨l5, sp, rfl, HF.out⟩
end Go.Proofs.YtddnmocoaahlfaaGreatDoor

namespace Go.Proofs.YtddnmocoaahlfaaGreatDoor
open Go.RowKit Go.Shelf

def tokB (c : UInt8) : Bool := 33 ≤ c && c ≤ 126
theorem tokB_range {c : UInt8} : tokB c = true ↔ 33 ≤ c.toNat ∧ c.toNat ≤ 126 := by
  unfold tokB
  simp only [Bool.and_eq_true, decide_eq_true_eq, UInt8.le_iff_toNat_le]
  exact Iff.rfl
set_option maxRecDepth 100000 in
set_option maxHeartbeats 4000000 in
theorem isTok_any (s : ByteArray) (w : World) (hs : s.size ≤ 281474976710656) : Calls Tryz.prog 48 #[.string s] w (fun e w' => e = .returned (.bool (isTokL (txt s))) ∧ w' = w) := by
  obtain ⟨res, hres⟩ : ∃ res, res = isTokL (txt s) := ⟨_, rfl⟩
  rw [← hres]
  have HS := Lib.hid hres
  have HSZ := Lib.hid (show (txt s).length = s.size by simp)
  clear hres
  go_enter Tryz.func48, Tryz.ntmps48
  go_wp2_with fail
  go_loop [6] (fun t => ∃ m : Nat, m ≤ s.size ∧ t = .int .i64 m ∧ ((txt s).take m).all tokB = true) (fun t => s.size - (intOf t).toNat)
  case atStart => exact ⟨0, Nat.zero_le _, rfl, by simp⟩
  case round =>
    obtain ⟨m, hm, rfl, hc⟩ := hrel
    have HC := Lib.hid hc
    clear hc
    by_cases hl : m < s.size
    · have hml : m < (txt s).length := by rw [HSZ.out]; exact hl
      have hst : (txt s).take (m + 1) = (txt s).take m ++ [s[m]] := by rw [List.take_succ_eq_append_getElem hml, byte_get hl]
      have hmem : s[m] ∈ txt s := by rw [← byte_get hl]; exact List.getElem_mem _
      have HST := Lib.hid hst
      have HM := Lib.hid hmem
      clear hst hmem
      by_cases hb : tokB s[m] = true
      · have hr := tokB_range.1 hb
        have e1 : decide (((s[m]).toNat : Int) < 33) = false := decide_eq_false (by omega)
        have e2 : decide ((126 : Int) < ((s[m]).toNat : Int)) = false := decide_eq_false (by omega)
        have HB := Lib.hid hb
        clear hb
        go_wp2_with fail
        go_round
        case rel => exact ⟨m + 1, by omega, by go_num, by rw [HST.out, List.all_append, HC.out]; simp [HB.out]⟩
        case measure => simp [intOf]; omega
      · have hr : res = false := by
          rw [HS.out]
          unfold isTokL
          have : (txt s).all (fun c => 33 ≤ c && c ≤ 126) = false := by
            rw [Bool.eq_false_iff]
            intro h
            rw [List.all_eq_true] at h
            exact hb (h _ HM.out)
          rw [this]; rfl
        subst hr
        have hr2 := mt tokB_range.2 hb
        rcases Nat.lt_or_ge (s[m]).toNat 33 with h | h
        · have e1 : decide (((s[m]).toNat : Int) < 33) = true := decide_eq_true (by omega)
          clear hb hr2
          go_wp2_with fail
          go_ret
          exact ⟨rfl, rfl⟩
        · have e1 : decide (((s[m]).toNat : Int) < 33) = false := decide_eq_false (by omega)
          have e2 : decide ((126 : Int) < ((s[m]).toNat : Int)) = true := decide_eq_true (by omega)
          clear hb hr2
          go_wp2_with fail
          go_ret
          exact ⟨rfl, rfl⟩
    · have hms : m = s.size := by omega
      have hall : (txt s).all (fun c => 33 ≤ c && c ≤ 126) = true := by
        have h := HC.out
        rw [hms, ← HSZ.out, List.take_length] at h
        exact h
      have hr : res = (decide (1 ≤ s.size) && decide (s.size ≤ 64)) := by
        rw [HS.out]; unfold isTokL; rw [hall, HSZ.out]; rfl
      have HR := Lib.hid hr
      clear hall hr
      by_cases h1 : 1 ≤ s.size
      · have d1 : decide ((0 : Int) < (s.size : Int)) = true := decide_eq_true (by omega)
        by_cases h2 : s.size ≤ 64
        · have d2 : decide ((s.size : Int) ≤ 64) = true := decide_eq_true (by omega)
          have hr : res = true := by rw [HR.out]; simp [h1, h2]
          subst hr
          go_wp2_with fail
          go_ret
          exact ⟨rfl, rfl⟩
        · have d2 : decide ((s.size : Int) ≤ 64) = false := decide_eq_false (by omega)
          have hr : res = false := by rw [HR.out]; simp [h2]
          subst hr
          go_wp2_with fail
          go_ret
          exact ⟨rfl, rfl⟩
      · have d1 : decide ((0 : Int) < (s.size : Int)) = false := decide_eq_false (by omega)
        have hr : res = false := by rw [HR.out]; simp [h1]
        subst hr
        go_wp2_with fail
        go_ret
        exact ⟨rfl, rfl⟩
set_option maxRecDepth 100000 in
set_option maxHeartbeats 4000000 in
theorem token_any (s : ByteArray) (w : World) (hs : s.size ≤ 281474976710656) : Calls Tryz.prog 72 #[.string s] w (fun e w' => e = .returned (.bool (isTokL (txt s))) ∧ w' = w) := by
  obtain ⟨res, hres⟩ : ∃ res, res = isTokL (txt s) := ⟨_, rfl⟩
  rw [← hres]
  have HS := Lib.hid hres
  have HSZ := Lib.hid (show (txt s).length = s.size by simp)
  clear hres
  go_enter Tryz.func72, Tryz.ntmps72
  go_wp2_with fail
  go_loop [3] (fun t => ∃ m : Nat, m ≤ s.size ∧ t = .int .i64 m ∧ ((txt s).take m).all tokB = true) (fun t => s.size - (intOf t).toNat)
  case atStart => exact ⟨0, Nat.zero_le _, rfl, by simp⟩
  case round =>
    obtain ⟨m, hm, rfl, hc⟩ := hrel
    have HC := Lib.hid hc
    clear hc
    by_cases hl : m < s.size
    · have hml : m < (txt s).length := by rw [HSZ.out]; exact hl
      have hst : (txt s).take (m + 1) = (txt s).take m ++ [s[m]] := by rw [List.take_succ_eq_append_getElem hml, byte_get hl]
      have hmem : s[m] ∈ txt s := by rw [← byte_get hl]; exact List.getElem_mem _
      have HST := Lib.hid hst
      have HM := Lib.hid hmem
      clear hst hmem
      by_cases hb : tokB s[m] = true
      · have hr := tokB_range.1 hb
        have e1 : decide (((s[m]).toNat : Int) < 33) = false := decide_eq_false (by omega)
        have e2 : decide ((126 : Int) < ((s[m]).toNat : Int)) = false := decide_eq_false (by omega)
        have HB := Lib.hid hb
        clear hb
        go_wp2_with fail
        go_round
        case rel => exact ⟨m + 1, by omega, by go_num, by rw [HST.out, List.all_append, HC.out]; simp [HB.out]⟩
        case measure => simp [intOf]; omega
      · have hr : res = false := by
          rw [HS.out]
          unfold isTokL
          have : (txt s).all (fun c => 33 ≤ c && c ≤ 126) = false := by
            rw [Bool.eq_false_iff]
            intro h
            rw [List.all_eq_true] at h
            exact hb (h _ HM.out)
          rw [this]; rfl
        subst hr
        have hr2 := mt tokB_range.2 hb
        rcases Nat.lt_or_ge (s[m]).toNat 33 with h | h
        · have e1 : decide (((s[m]).toNat : Int) < 33) = true := decide_eq_true (by omega)
          clear hb hr2
          go_wp2_with fail
          go_ret
          exact ⟨rfl, rfl⟩
        · have e1 : decide (((s[m]).toNat : Int) < 33) = false := decide_eq_false (by omega)
          have e2 : decide ((126 : Int) < ((s[m]).toNat : Int)) = true := decide_eq_true (by omega)
          clear hb hr2
          go_wp2_with fail
          go_ret
          exact ⟨rfl, rfl⟩
    · have hms : m = s.size := by omega
      have hall : (txt s).all (fun c => 33 ≤ c && c ≤ 126) = true := by
        have h := HC.out
        rw [hms, ← HSZ.out, List.take_length] at h
        exact h
      have hr : res = (decide (1 ≤ s.size) && decide (s.size ≤ 64)) := by
        rw [HS.out]; unfold isTokL; rw [hall, HSZ.out]; rfl
      have HR := Lib.hid hr
      clear hall hr
      by_cases h1 : 1 ≤ s.size
      · have d1 : decide ((1 : Int) ≤ (s.size : Int)) = true := decide_eq_true (by omega)
        by_cases h2 : s.size ≤ 64
        · have d2 : decide ((s.size : Int) ≤ 64) = true := decide_eq_true (by omega)
          have hr : res = true := by rw [HR.out]; simp [h1, h2]
          subst hr
          go_wp2_with fail
          go_ret
          exact ⟨rfl, rfl⟩
        · have d2 : decide ((s.size : Int) ≤ 64) = false := decide_eq_false (by omega)
          have hr : res = false := by rw [HR.out]; simp [h2]
          subst hr
          go_wp2_with fail
          go_ret
          exact ⟨rfl, rfl⟩
      · have d1 : decide ((1 : Int) ≤ (s.size : Int)) = false := decide_eq_false (by omega)
        have hr : res = false := by rw [HR.out]; simp [h1]
        subst hr
        go_wp2_with fail
        go_ret
        exact ⟨rfl, rfl⟩

/-- The word of a kind of event, how many numbers it has, and whether it has a text. -/
def refNamed (k : Int) : List UInt8 × Nat × Bool := if k < 1 ∨ k > 25 then ([], 0, false) else (evWord k.toNat, evNums k.toNat, evTok k.toNat)
theorem evTok_iff : ∀ i : Fin 26, 1 ≤ i.val → evTok i.val = (decide (i.val = 21) || decide (i.val = 22)) := by decide
/-- What Named ends in. -/
def RetNm (w : World) (r : List UInt8 × Nat × Bool) (e : Ending) (w' : World) : Prop := Below w.heap.size w w' ∧ ∃ s : ByteArray, e = .returned (.tuple #[.string s, .int .i64 r.2.1, .bool r.2.2]) ∧ txt s = r.1
set_option maxRecDepth 100000 in
set_option maxHeartbeats 4000000 in
theorem named_any0 (k : Int) (w : World) : Calls Tryz.prog 71 #[.int .i64 k] w (RetNm w (refNamed k)) := by
  obtain ⟨w2, hw2⟩ : ∃ w2, w2 = (w.alloc (.cells eWords 187)).alloc (.cells eCounts 188) := ⟨_, rfl⟩
  have l2 : Below w.heap.size w w2 := by rw [hw2]; exact ((Below.refl _ _).alloc (Nat.le_refl _) _).alloc (by simp) _
  have L2 := Lib.hid l2
  have z1 : (w.alloc (.cells eWords 187)).heap.size = w.heap.size + 1 := by simp
  have c1 : ∀ n, n < 26 → n ≠ 0 → w2.cell? ⟨w.heap.size, n, none⟩ = some (.string ⟨(evWord n).toArray⟩) := fun n hn1 hn0 => by
    rw [hw2, ((Blk.new w _ _).alloc _).cell n, eWords_get n hn1, if_neg hn0]
  have c2 : ∀ n, n < 26 → n ≠ 0 → w2.cell? ⟨w.heap.size + 1, n, none⟩ = some (.int .i64 (evNums n)) := fun n hn1 hn0 => by
    have h := (Blk.new (w.alloc (.cells eWords 187)) eCounts 188).cell n
    rw [z1] at h
    rw [hw2, h, eCounts_get n hn1, if_neg hn0]
  have C1 := Lib.hid c1
  have C2 := Lib.hid c2
  have HW := Lib.hid hw2
  obtain ⟨r, hr⟩ : ∃ r, r = refNamed k := ⟨_, rfl⟩
  rw [← hr]
  have HR := Lib.hid hr
  clear l2 hw2 z1 c1 c2 hr
  go_enter Tryz.func71, Tryz.ntmps71
  go_upto_region 3 with (first | (refine wpList_val (o := ⟨some 7, _, _, _, _, _⟩) rfl (Instr.build 187 _) rfl _ (eWords_build _) ?_) | (refine wpList_val (o := ⟨some 5, _, _, _, _, _⟩) rfl (Instr.alloc 187 true (.tuple #[])) rfl _ (eWords_alloc _) ?_) | (refine wpList_unit (o := ⟨none, Op.store 187 _ _, _, _, _, _⟩) rfl rfl (Instr.storeAt 187 _ _) rfl (eWords_store _) ?_) | (refine wpList_val (o := ⟨some 8, _, _, _, _, _⟩) rfl (Instr.build 188 _) rfl _ (eCounts_build _) ?_) | (refine wpList_val (o := ⟨some 6, _, _, _, _, _⟩) rfl (Instr.alloc 188 true (.tuple #[])) rfl _ (eCounts_alloc _) ?_) | (refine wpList_unit (o := ⟨none, Op.store 188 _ _, _, _, _, _⟩) rfl rfl (Instr.storeAt 188 _ _) rfl (eCounts_store _) ?_))
  rw [← HW.out]
  clear HW
  by_cases h1 : k < 1
  · have hr : r = ([], 0, false) := by rw [HR.out]; unfold refNamed; rw [if_pos (.inl h1)]
    subst hr
    have d1 : decide (k < 1) = true := decide_eq_true h1
    clear h1
    go_wp2_with fail
    go_ret3
    exact ⟨L2.out, _, rfl, rfl⟩
  have d1 : decide (k < 1) = false := decide_eq_false h1
  by_cases h2 : k > 25
  · have hr : r = ([], 0, false) := by rw [HR.out]; unfold refNamed; rw [if_pos (.inr h2)]
    subst hr
    have d2 : decide (25 < k) = true := decide_eq_true h2
    clear h1 h2
    go_wp2_with fail
    go_ret3
    exact ⟨L2.out, _, rfl, rfl⟩
  have d2 : decide (25 < k) = false := decide_eq_false h2
  obtain ⟨n, rfl⟩ : ∃ n : Nat, k = n := ⟨k.toNat, by omega⟩
  have hn0 : n ≠ 0 := by omega
  have hn1 : n < 26 := by omega
  have hr : r = (evWord n, evNums n, evTok n) := by rw [HR.out]; unfold refNamed; rw [if_neg (by omega)]; rfl
  have c1 := C1.out n hn1 hn0
  have c2 := C2.out n hn1 hn0
  have htk := evTok_iff ⟨n, hn1⟩ (by show 1 ≤ n; omega)
  simp only at htk
  have HTK := Lib.hid htk
  have HRR := Lib.hid hr
  clear hr htk hn0 C1 C2
  generalize evWord n = wd at *
  generalize evNums n = fs at *
  by_cases h21 : n = 21
  · have e1 : ((n : Int) == 21) = true := by simp [h21]
    have ht : evTok n = true := by rw [HTK.out]; simp [h21]
    rw [ht] at HRR
    have hr := HRR.out
    subst hr
    clear h21 ht
    go_wp2_with fail
    go_quiet (fail)
    go_wp2_with fail
    go_ret3
    exact ⟨L2.out.trans ((drewN_below w2 _).mono L2.out.size), _, rfl, rfl⟩
  have e1 : ((n : Int) == 21) = false := by simp; omega
  by_cases h22 : n = 22
  · have e2 : ((n : Int) == 22) = true := by simp [h22]
    have ht : evTok n = true := by rw [HTK.out]; simp [h22]
    rw [ht] at HRR
    have hr := HRR.out
    subst hr
    clear h21 h22 ht
    go_wp2_with fail
    go_quiet (fail)
    go_wp2_with fail
    go_ret3
    exact ⟨L2.out.trans ((drewN_below w2 _).mono L2.out.size), _, rfl, rfl⟩
  · have e2 : ((n : Int) == 22) = false := by simp; omega
    have ht : evTok n = false := by rw [HTK.out]; simp [h21, h22]
    rw [ht] at HRR
    have hr := HRR.out
    subst hr
    clear h21 h22 ht
    go_wp2_with fail
    go_quiet (fail)
    go_wp2_with fail
    go_ret3
    exact ⟨L2.out.trans ((drewN_below w2 _).mono L2.out.size), _, rfl, rfl⟩
end Go.Proofs.YtddnmocoaahlfaaGreatDoor

namespace Go.Proofs.YtddnmocoaahlfaaGreatDoor
open Go.RowKit Go.Shelf

/-- An event's value. -/
abbrev evA (k a b c : Int) (s : ByteArray) : Value := .agg #[.int .i64 k, .int .i64 a, .int .i64 b, .int .i64 c, .string s]
theorem evs_get {j : Nat} (hj : j < 25) : evWord (j + 1) = (evWords[j]!).1 ∧ evNums (j + 1) = (evWords[j]!).2.1 ∧ evTok (j + 1) = (evWords[j]!).2.2 := by
  have : ∀ j : Fin 25, evWord (j.val + 1) = (evWords[j.val]!).1 ∧ evNums (j.val + 1) = (evWords[j.val]!).2.1 ∧ evTok (j.val + 1) = (evWords[j.val]!).2.2 := by decide
  exact this ⟨j, hj⟩
theorem evw_len : ∀ j : Fin 25, (evWords[j.val]!).1.length ≤ 64 ∧ (evWords[j.val]!).2.1 ≤ 3 := by decide
theorem evs_cells {w : World} (h : Evs w) {j : Nat} (hj : j < 25) : w.cell? ⟨1, j * 3, none⟩ = some (.string ⟨(evWords[j]!).1.toArray⟩) ∧ w.cell? ⟨1, j * 3 + 1, none⟩ = some (.int .i64 (evWords[j]!).2.1) ∧ w.cell? ⟨1, j * 3 + 2, none⟩ = some (.bool (evWords[j]!).2.2) := by
  have h0 := h.2 j hj 0 _ rfl
  have h1 := h.2 j hj 1 _ rfl
  have h2 := h.2 j hj 2 _ rfl
  rw [Nat.zero_add] at h0 h1 h2
  exact ⟨h0, h1, h2⟩
theorem drop_all3 {f : List Int} (hf : f.length = 3) {n : Nat} (h : ∀ j (hj : j < f.length), n ≤ j → f[j] = 0) : (f.drop n).all (· = 0) = true := by
  rw [List.all_eq_true]
  intro x hx
  obtain ⟨i, hi, rfl⟩ := List.getElem_of_mem hx
  rw [List.getElem_drop]
  simp only [List.length_drop] at hi
  simp [h (n + i) (by omega) (by omega)]
set_option maxRecDepth 100000 in
set_option maxHeartbeats 8000000 in
theorem evText_any {w : World} (he : Env w) (hev : Evs w) {k a b c : Int} {s : ByteArray} (ha : I64 a) (hb : I64 b) (hc : I64 c) (hs : s.size ≤ 65536) : Calls Tryz.prog 23 #[evA k a b c s] w (RetTE w (evTextT k [a, b, c] (txt s))) := by
  obtain ⟨res, hres⟩ : ∃ res, res = evTextT k [a, b, c] (txt s) := ⟨_, rfl⟩
  rw [← hres]
  have hs' : s.size ≤ 281474976710656 := by omega
  by_cases h1 : k < 1
  · have hr : res = ([], 2) := by rw [hres]; unfold evTextT; rw [if_pos (.inl h1)]
    have HR := Lib.hid hr
    have d1 : decide (k < 1) = true := decide_eq_true h1
    clear hr hres he hev ha hb hc
    go_enter Tryz.func23, Tryz.ntmps23
    go_wp2_with fail
    go_ret2
    unfold RetTE
    rw [HR.out]
    exact ⟨(Below.refl _ _).alloc (Nat.le_refl _) _, _, rfl, rfl⟩
  have d1 : decide (k < 1) = false := decide_eq_false h1
  by_cases h2 : k > 25
  · have hr : res = ([], 2) := by rw [hres]; unfold evTextT; rw [if_pos (.inr h2)]
    have HR := Lib.hid hr
    have d2 : decide (25 < k) = true := decide_eq_true h2
    clear hr hres he hev ha hb hc
    go_enter Tryz.func23, Tryz.ntmps23
    go_wp2_with fail
    go_ret2
    unfold RetTE
    rw [HR.out]
    exact ⟨(Below.refl _ _).alloc (Nat.le_refl _) _, _, rfl, rfl⟩
  have d2 : decide (25 < k) = false := decide_eq_false h2
  obtain ⟨j, hj, rfl⟩ : ∃ j : Nat, j < 25 ∧ k = ((j : Int) + 1) := ⟨(k - 1).toNat, by omega, by omega⟩
  obtain ⟨f, hf⟩ : ∃ f : List Int, f = [a, b, c] := ⟨_, rfl⟩
  have hres2 : res = if (f.drop (evWords[j]!).2.1).all (· = 0) = true then (if (evWords[j]!).2.2 then (if isTokL (txt s) then (lineT (evWords[j]!).1 (f.take (evWords[j]!).2.1) ++ 32 :: txt s, (0 : Int)) else ([], 2)) else if txt s = [] then (lineT (evWords[j]!).1 (f.take (evWords[j]!).2.1), 0) else ([], 2)) else ([], 2) := by
    rw [hres]
    unfold evTextT
    rw [if_neg (by omega), show ((j : Int) + 1).toNat = j + 1 by omega, (evs_get hj).1, (evs_get hj).2.1, (evs_get hj).2.2, ← hf]
  obtain ⟨w1, hw1⟩ : ∃ w1, w1 = w.alloc (.cells #[.int .i64 ((j : Int) + 1), .int .i64 a, .int .i64 b, .int .i64 c, .string s] 26) := ⟨_, rfl⟩
  have l1 : Below w.heap.size w w1 := by rw [hw1]; exact (Below.refl _ _).alloc (Nat.le_refl _) _
  have z1 : w1.heap.size = w.heap.size + 1 := by rw [hw1]; simp
  obtain ⟨t0, t1, t2⟩ := evs_cells (hev.below l1) hj
  obtain ⟨hwl, hn3⟩ := evw_len ⟨j, hj⟩
  simp only at hwl hn3
  have h11 : 1 < w.heap.size := hev.1
  generalize hwd : (evWords[j]!).1 = wd at *
  generalize hnn : (evWords[j]!).2.1 = n at *
  generalize htk : (evWords[j]!).2.2 = tk at *
  obtain ⟨w2, hw2⟩ : ∃ w2, w2 = w1.alloc (.cells #[.string ⟨wd.toArray⟩, .int .i64 n, .bool tk] 84) := ⟨_, rfl⟩
  have z2 : w2.heap.size = w.heap.size + 2 := by rw [hw2]; simp [z1]
  have l2 : Below w.heap.size w w2 := l1.trans (by rw [hw2]; exact (Below.refl _ _).alloc (by omega) _)
  obtain ⟨w3, hw3⟩ : ∃ w3, w3 = w2.alloc (.cells #[.int .i64 a, .int .i64 b, .int .i64 c] 3) := ⟨_, rfl⟩
  have l3 : Below w.heap.size w w3 := l2.trans (by rw [hw3]; exact (Below.refl _ _).alloc (by omega) _)
  have B3 : Blk w3 (w.heap.size + 1 + 1) #[.int .i64 a, .int .i64 b, .int .i64 c] 3 := by rw [hw3, show w.heap.size + 1 + 1 = w2.heap.size by omega]; exact Blk.new w2 _ _
  have B2 : Blk w2 (w.heap.size + 1) #[.string ⟨wd.toArray⟩, .int .i64 n, .bool tk] 84 := by rw [hw2, ← z1]; exact Blk.new w1 _ _
  have B23 : Blk w3 (w.heap.size + 1) #[.string ⟨wd.toArray⟩, .int .i64 n, .bool tk] 84 := by rw [hw3]; exact B2.alloc _
  have f0 : w3.cell? ⟨w.heap.size + 1, 0, none⟩ = some (.string ⟨wd.toArray⟩) := (B23.cell 0).trans rfl
  have f1 : w3.cell? ⟨w.heap.size + 1, 1, none⟩ = some (.int .i64 n) := (B23.cell 1).trans rfl
  have f2 : w3.cell? ⟨w.heap.size + 1, 2, none⟩ = some (.bool tk) := (B23.cell 2).trans rfl
  have e4 : w3.cell? ⟨w.heap.size, 4, none⟩ = some (.string s) := by
    have BE : Blk w3 w.heap.size #[.int .i64 ((j : Int) + 1), .int .i64 a, .int .i64 b, .int .i64 c, .string s] 26 := by rw [hw3, hw2, hw1]; exact ((Blk.new w _ _).alloc _).alloc _
    exact (BE.cell 4).trans rfl
  have hS0 : ∀ W, Below w3.heap.size w3 W → (W.cell? ⟨w.heap.size + 1, 0, none⟩ = some (.string ⟨wd.toArray⟩) ∧ W.cell? ⟨w.heap.size + 1, 1, none⟩ = some (.int .i64 n) ∧ W.cell? ⟨w.heap.size, 4, none⟩ = some (.string s)) := fun W hW => ⟨cell_below f0 hW, cell_below f1 hW, cell_below e4 hW⟩
  have S0 := Lib.hid hS0
  clear hS0
  have hfl : f.length = 3 := by rw [hf]; rfl
  have hcf : ∀ i (h : i < f.length), w3.cell? ⟨w.heap.size + 1 + 1, i, none⟩ = some (.int .i64 f[i]) := fun i h => by
    rw [B3.cell i]
    have h3 : i < 3 := by omega
    subst hf
    match i, h3 with
    | 0, _ => rfl
    | 1, _ => rfl
    | 2, _ => rfl
  have hfi : ∀ x ∈ f, I64 x := by
    rw [hf]
    intro x hx
    simp only [List.mem_cons, List.not_mem_nil, or_false] at hx
    rcases hx with rfl | rfl | rfl
    · exact ha
    · exact hb
    · exact hc
  have hlen := lineT_len wd (f.take n) (fun x hx => hfi x (List.mem_of_mem_take hx))
  have hlt3 : (f.take n).length = n := by rw [List.length_take]; omega
  have hjoin : ∀ W, Below w3.heap.size w3 W → Calls Tryz.prog 42 #[.string ⟨wd.toArray⟩, .slice (some ⟨w.heap.size + 1 + 1, 0, none⟩) n 3, .slice none 0 0] W (RetStr W (lineT wd (f.take n))) := fun W hW => by
    have h := join_any (tab_below he.tab (l3.trans (hW.mono l3.size))) (word := ⟨wd.toArray⟩) (mv := .slice none 0 0) (ms := []) ((nrow_take hcf n (by omega) 3 (by omega)).below hW) (fun x hx => hfi x (List.mem_of_mem_take hx)) (.inl ⟨rfl, _, _, rfl⟩) (by omega) (by simp) (by
      show (joinB 32 wd ((f.take n).map Lib.itoa ++ [])).length ≤ _
      rw [List.append_nil, ← line_join]; omega)
    have e1 : joinB 32 (txt ⟨wd.toArray⟩) ((f.take n).map Lib.itoa ++ List.map txt []) = lineT wd (f.take n) := by
      show joinB 32 wd ((f.take n).map Lib.itoa ++ []) = _
      rw [List.append_nil, line_join]
    rw [e1] at h
    exact h
  have hjoin2 : ∀ W, Below w3.heap.size w3 W → Blk W w3.heap.size #[.string s] 9 → Calls Tryz.prog 42 #[.string ⟨wd.toArray⟩, .slice (some ⟨w.heap.size + 1 + 1, 0, none⟩) n 3, .slice (some ⟨w3.heap.size, 0, none⟩) 1 1] W (RetStr W (lineT wd (f.take n) ++ 32 :: txt s)) := fun W hW hB => by
    have hsl : (txt s).length = s.size := by simp
    have e1 : joinB 32 (txt ⟨wd.toArray⟩) ((f.take n).map Lib.itoa ++ List.map txt [s]) = lineT wd (f.take n) ++ 32 :: txt s := by
      show joinB 32 wd ((f.take n).map Lib.itoa ++ [txt s]) = _
      rw [line_join]; unfold joinB; simp
    have h := join_any (tab_below he.tab (l3.trans (hW.mono l3.size))) (word := ⟨wd.toArray⟩) (mv := .slice (some ⟨w3.heap.size, 0, none⟩) 1 1) (ms := [s]) ((nrow_take hcf n (by omega) 3 (by omega)).below hW) (fun x hx => hfi x (List.mem_of_mem_take hx))
      (.inr ⟨by simp, w3.heap.size, 0, 1, rfl, Nat.le_refl _, ⟨_, _, hB⟩, fun i hi => by
        have : i = 0 := by simp at hi; omega
        subst this
        exact (hB.cell 0).trans rfl⟩) (by omega) (by simp) (by rw [e1]; simp; omega)
    rw [e1] at h
    exact h
  have HJ := Lib.hid (show Calls Tryz.prog 42 #[.string ⟨wd.toArray⟩, .slice (some ⟨w.heap.size + 1 + 1, 0, none⟩) n 3, .slice none 0 0] w3.drew (fun e w' => Below w3.heap.size w3 w' ∧ ∃ sj : ByteArray, e = .returned (.string sj) ∧ txt sj = lineT wd (f.take n)) from (hjoin w3.drew (Below.refl _ w3).drew).mono fun e w' h => ⟨(Below.refl _ w3).drew.trans h.1, h.2⟩)
  have HJ2 := Lib.hid (show Calls Tryz.prog 42 #[.string ⟨wd.toArray⟩, .slice (some ⟨w.heap.size + 1 + 1, 0, none⟩) n 3, .slice (some ⟨w3.heap.size, 0, none⟩) 1 1] (w3.alloc (.cells #[.string s] 9)).drew (fun e w' => Below w3.heap.size w3 w' ∧ ∃ sj : ByteArray, e = .returned (.string sj) ∧ txt sj = lineT wd (f.take n) ++ 32 :: txt s) from (hjoin2 (w3.alloc (.cells #[.string s] 9)).drew ((Below.refl _ w3).alloc (Nat.le_refl _) _).drew ((Blk.new w3 _ _).drewN 1)).mono fun e w' h => ⟨((Below.refl _ w3).alloc (Nat.le_refl _) _).drew.trans (h.1.mono (by simp [World.drew])), h.2⟩)
  have HRS := Lib.hid hres2
  have HCF := Lib.hid hcf
  have HFL := Lib.hid hfl
  have HW1 := Lib.hid hw1
  have HW2 := Lib.hid hw2
  have hw3' := hw3
  rw [hw2, hw1] at hw3'
  have HW3 := Lib.hid hw3'
  have hwj : ((j : Int) + 1 - 1) = j := by omega
  have hn3i : (n : Int) ≤ 3 := by omega
  have hn0i : (0 : Int) ≤ (n : Int) := by omega
  rw [hw1] at t0 t1 t2
  clear hres hres2 hjoin hjoin2 he hev ha hb hc hcf hf hfl hfi hw1 hw2 hw3 hw3' z1 z2 B2 B3 B23 hlen hlt3 hwd hnn htk h1 h2 l1 l2
  by_cases h5 : n = 3
  · have h5z : 3 - n = 0 := by omega
    have H5 := Lib.hid h5
    clear h5
    go_enter Tryz.func23, Tryz.ntmps23
    go_wp2_with fail
    refine wp_loop_rounds 1 ?_
    rw [rounds_succ]
    have hall : (f.drop n).all (· = 0) = true := drop_all3 HFL.out (fun q hq h => by have := HFL.out; have := H5.out; omega)
    obtain ⟨r, hr⟩ : ∃ r, r = (if tk then (if isTokL (txt s) then (lineT wd (f.take n) ++ 32 :: txt s, (0 : Int)) else ([], 2)) else if txt s = [] then (lineT wd (f.take n), 0) else ([], 2)) := ⟨_, rfl⟩
    have hres2 : res = r := by rw [HRS.out, if_pos hall, hr]
    subst hres2
    have HR := Lib.hid hr
    clear hall hr HRS
    cases tk with
    | false =>
      by_cases hs0 : txt s = []
      · have d1 : (s.toList == []) = true := by rw [lit_str']; exact decide_eq_true hs0
        have hr : res = (lineT wd (f.take n), 0) := by rw [HR.out]; simp [hs0]
        have HRR := Lib.hid hr
        clear hr hs0
        go_upto_region 14 with fail
        rw [← HW3.out]
        go_region_held3 (fun w' => w'.cell? ⟨w.heap.size + 1, 0, none⟩ = some (.string ⟨wd.toArray⟩) ∧ w'.cell? ⟨w.heap.size + 1, 1, none⟩ = some (.int .i64 n) ∧ w'.cell? ⟨w.heap.size, 4, none⟩ = some (.string s)) (first | (with_reducible exact ⟨f0, f1, e4⟩) | (go_split_ands; with_reducible exact ⟨by assumption, by assumption, by assumption⟩) | (refine S0.out _ ?_; repeat (first | assumption | (with_reducible exact Below.refl _ _) | (with_reducible apply Below.drew) | (with_reducible refine Below.alloc ?_ (Nat.le_refl _) _)))) (first | (go_at_call 42; (with_reducible refine HJ.out.mono ?_); rintro ex w4 ⟨b4, sj, rfl, hj⟩))
        all_goals (go_wp2_with fail; go_ret2; unfold RetTE; rw [HRR.out]; exact ⟨l3.trans (b4.mono l3.size), sj, rfl, hj⟩)
      · have d1 : (s.toList == []) = false := by rw [lit_str']; exact decide_eq_false hs0
        have hr : res = ([], 2) := by rw [HR.out]; simp [hs0]
        have HRR := Lib.hid hr
        clear hr hs0
        go_wp2_with fail
        go_ret2
        unfold RetTE
        rw [HRR.out]
        rw [← HW3.out]
        exact ⟨l3, _, rfl, rfl⟩
    | true =>
      have HT := Lib.hid (isTok_any s)
      by_cases ht : isTokL (txt s) = true
      · have hr : res = (lineT wd (f.take n) ++ 32 :: txt s, 0) := by rw [HR.out]; simp [ht]
        have HRR := Lib.hid hr
        rw [ht] at HT
        clear hr ht
        go_upto_region 17 with (go_at_call 48; refine (HT.out _ hs').mono ?_; rintro ex w4 ⟨rfl, rfl⟩)
        rw [← HW3.out]
        go_region_held3 (fun w' => w'.cell? ⟨w.heap.size + 1, 0, none⟩ = some (.string ⟨wd.toArray⟩) ∧ w'.cell? ⟨w.heap.size + 1, 1, none⟩ = some (.int .i64 n) ∧ w'.cell? ⟨w.heap.size, 4, none⟩ = some (.string s)) (first | (with_reducible exact ⟨f0, f1, e4⟩) | (go_split_ands; with_reducible exact ⟨by assumption, by assumption, by assumption⟩) | (refine S0.out _ ?_; repeat (first | assumption | (with_reducible exact Below.refl _ _) | (with_reducible apply Below.drew) | (with_reducible refine Below.alloc ?_ (Nat.le_refl _) _)))) (first | (go_at_call 42; (with_reducible refine HJ2.out.mono ?_); rintro ex w4 ⟨b4, sj, rfl, hj⟩))
        all_goals (go_wp2_with fail; go_ret2; unfold RetTE; rw [HRR.out]; exact ⟨l3.trans (b4.mono l3.size), sj, rfl, hj⟩)
      · have ht' : isTokL (txt s) = false := by simpa using ht
        have hr : res = ([], 2) := by rw [HR.out]; simp [ht']
        have HRR := Lib.hid hr
        rw [ht'] at HT
        clear hr ht ht'
        go_wp2_with (go_at_call 48; refine (HT.out _ hs').mono ?_; rintro ex w4 ⟨rfl, rfl⟩)
        go_ret2
        unfold RetTE
        rw [HRR.out]
        rw [← HW3.out]
        exact ⟨l3, _, rfl, rfl⟩
  · have h5n : ¬ 3 - n = 0 := by omega
    have hlt5 : n < 3 := by omega
    go_enter Tryz.func23, Tryz.ntmps23
    go_wp2_with fail
    go_loop [33] (fun t => ∃ i : Nat, t = .int .i64 i ∧ i ≤ 3 - n ∧ ∀ q (hq : q < f.length), n ≤ q → q < n + i → f[q] = 0) (fun t => 3 - n - (intOf t).toNat)
    case atStart => exact ⟨0, rfl, Nat.zero_le _, fun q hq h1 h2 => by omega⟩
    case round =>
      obtain ⟨i, rfl, hi, hz⟩ := hrel
      have HZ := Lib.hid hz
      clear hz
      by_cases hlt : i < 3 - n
      · have hqi : n + i < f.length := by have := HFL.out; omega
        have hci := HCF.out (n + i) hqi
        have HX := Lib.hid (drop_not hqi (Nat.le_add_right n i))
        have HQ := Lib.hid (show ∀ x, x = f[n + i] → x = 0 → ∀ q (hq : q < f.length), n ≤ q → q < n + (i + 1) → f[q] = 0 from fun x hx h0 q hq h1 h2 => by
          by_cases e : q = n + i
          · subst e; rw [← hx]; exact h0
          · exact HZ.out q hq h1 (by omega))
        obtain ⟨x, hx⟩ : ∃ x, x = f[n + i] := ⟨_, rfl⟩
        rw [← hx] at hci HX
        have HXE := Lib.hid hx
        clear hx
        rw [HW3.out] at hci
        by_cases h0 : x = 0
        · have d0 : (x != 0) = false := by simp [h0]
          have H0 := Lib.hid h0
          clear h0
          go_wp2_with fail
          go_round
          case rel => exact ⟨i + 1, by go_num, by omega, HQ.out x HXE.out H0.out⟩
          case measure => simp [intOf]; omega
        · have d0 : (x != 0) = true := by simp [h0]
          have hr : res = ([], 2) := by rw [HRS.out, HX.out h0]; rfl
          have HR := Lib.hid hr
          clear hr h0
          go_wp2_with fail
          go_ret2
          unfold RetTE
          rw [HR.out]
          rw [← HW3.out]
          exact ⟨l3, _, rfl, rfl⟩
      · have hall : (f.drop n).all (· = 0) = true := drop_all3 HFL.out (fun q hq h => HZ.out q hq h (by have := HFL.out; omega))
        obtain ⟨r, hr⟩ : ∃ r, r = (if tk then (if isTokL (txt s) then (lineT wd (f.take n) ++ 32 :: txt s, (0 : Int)) else ([], 2)) else if txt s = [] then (lineT wd (f.take n), 0) else ([], 2)) := ⟨_, rfl⟩
        have hres2 : res = r := by rw [HRS.out, if_pos hall, hr]
        subst hres2
        have HR := Lib.hid hr
        clear hall hr HRS
        cases tk with
        | false =>
          by_cases hs0 : txt s = []
          · have d1 : (s.toList == []) = true := by rw [lit_str']; exact decide_eq_true hs0
            have hr : res = (lineT wd (f.take n), 0) := by rw [HR.out]; simp [hs0]
            have HRR := Lib.hid hr
            clear hr hs0
            go_upto_region 14 with fail
            rw [← HW3.out]
            go_region_held3 (fun w' => w'.cell? ⟨w.heap.size + 1, 0, none⟩ = some (.string ⟨wd.toArray⟩) ∧ w'.cell? ⟨w.heap.size + 1, 1, none⟩ = some (.int .i64 n) ∧ w'.cell? ⟨w.heap.size, 4, none⟩ = some (.string s)) (first | (with_reducible exact ⟨f0, f1, e4⟩) | (go_split_ands; with_reducible exact ⟨by assumption, by assumption, by assumption⟩) | (refine S0.out _ ?_; repeat (first | assumption | (with_reducible exact Below.refl _ _) | (with_reducible apply Below.drew) | (with_reducible refine Below.alloc ?_ (Nat.le_refl _) _)))) (first | (go_at_call 42; (with_reducible refine HJ.out.mono ?_); rintro ex w4 ⟨b4, sj, rfl, hj⟩))
            all_goals (go_wp2_with fail; go_ret2; unfold RetTE; rw [HRR.out]; exact ⟨l3.trans (b4.mono l3.size), sj, rfl, hj⟩)
          · have d1 : (s.toList == []) = false := by rw [lit_str']; exact decide_eq_false hs0
            have hr : res = ([], 2) := by rw [HR.out]; simp [hs0]
            have HRR := Lib.hid hr
            clear hr hs0
            go_wp2_with fail
            go_ret2
            unfold RetTE
            rw [HRR.out]
            rw [← HW3.out]
            exact ⟨l3, _, rfl, rfl⟩
        | true =>
          have HT := Lib.hid (isTok_any s)
          by_cases ht : isTokL (txt s) = true
          · have hr : res = (lineT wd (f.take n) ++ 32 :: txt s, 0) := by rw [HR.out]; simp [ht]
            have HRR := Lib.hid hr
            rw [ht] at HT
            clear hr ht
            go_upto_region 17 with (go_at_call 48; refine (HT.out _ hs').mono ?_; rintro ex w4 ⟨rfl, rfl⟩)
            rw [← HW3.out]
            go_region_held3 (fun w' => w'.cell? ⟨w.heap.size + 1, 0, none⟩ = some (.string ⟨wd.toArray⟩) ∧ w'.cell? ⟨w.heap.size + 1, 1, none⟩ = some (.int .i64 n) ∧ w'.cell? ⟨w.heap.size, 4, none⟩ = some (.string s)) (first | (with_reducible exact ⟨f0, f1, e4⟩) | (go_split_ands; with_reducible exact ⟨by assumption, by assumption, by assumption⟩) | (refine S0.out _ ?_; repeat (first | assumption | (with_reducible exact Below.refl _ _) | (with_reducible apply Below.drew) | (with_reducible refine Below.alloc ?_ (Nat.le_refl _) _)))) (first | (go_at_call 42; (with_reducible refine HJ2.out.mono ?_); rintro ex w4 ⟨b4, sj, rfl, hj⟩))
            all_goals (go_wp2_with fail; go_ret2; unfold RetTE; rw [HRR.out]; exact ⟨l3.trans (b4.mono l3.size), sj, rfl, hj⟩)
          · have ht' : isTokL (txt s) = false := by simpa using ht
            have hr : res = ([], 2) := by rw [HR.out]; simp [ht']
            have HRR := Lib.hid hr
            rw [ht'] at HT
            clear hr ht ht'
            go_wp2_with (go_at_call 48; refine (HT.out _ hs').mono ?_; rintro ex w4 ⟨rfl, rfl⟩)
            go_ret2
            unfold RetTE
            rw [HRR.out]
            rw [← HW3.out]
            exact ⟨l3, _, rfl, rfl⟩
end Go.Proofs.YtddnmocoaahlfaaGreatDoor

namespace Go.Proofs.YtddnmocoaahlfaaGreatDoor
open Go.RowKit Go.Shelf

theorem evw_ne : ∀ i : Fin 25, evWord (i.val + 1) ≠ [] := by decide
theorem refNamed_le (k : Int) : (refNamed k).2.1 ≤ 3 ∧ (refNamed k).1.length ≤ 64 := by
  unfold refNamed
  split
  · exact ⟨Nat.zero_le _, Nat.zero_le _⟩
  · rename_i h
    have : ∀ i : Fin 25, evNums (i.val + 1) ≤ 3 ∧ (evWord (i.val + 1)).length ≤ 64 := by decide
    have := this ⟨k.toNat - 1, by omega⟩
    simp only at this
    rw [show k.toNat - 1 + 1 = k.toNat by omega] at this
    exact this
theorem ev_valid (k : Int) (f : List Int) (x : List UInt8) : evTextT k f x = if (f.drop (refNamed k).2.1).all (· = 0) = true ∧ (refNamed k).1 ≠ [] ∧ (if (refNamed k).2.2 then isTokL x = true else x = []) then (lineT (refNamed k).1 (f.take (refNamed k).2.1) ++ (if (refNamed k).2.2 then 32 :: x else []), 0) else ([], 2) := by
  unfold evTextT refNamed
  by_cases hk : k < 1 ∨ k > 25
  · rw [if_pos hk, if_pos hk, if_neg (by simp)]
  · rw [if_neg hk, if_neg hk]
    simp only
    have hne : evWord k.toNat ≠ [] := by
      have := evw_ne ⟨k.toNat - 1, by omega⟩
      simp only at this
      rw [show k.toNat - 1 + 1 = k.toNat by omega] at this
      exact this
    by_cases hz : (f.drop (evNums k.toNat)).all (· = 0) = true
    · rw [if_pos hz]
      cases ht : evTok k.toNat with
      | true =>
        by_cases hx : isTokL x = true
        · rw [if_pos rfl, if_pos hx, if_pos ⟨hz, hne, by rw [if_pos rfl]; exact hx⟩, if_pos rfl]
        · rw [if_pos rfl, if_neg hx, if_neg (by rintro ⟨_, _, h⟩; rw [if_pos rfl] at h; exact hx h)]
      | false =>
        by_cases hx : x = []
        · rw [if_neg (by simp), if_pos hx, if_pos ⟨hz, hne, by rw [if_neg (by simp)]; exact hx⟩, if_neg (by simp), List.append_nil]
        · rw [if_neg (by simp), if_neg hx, if_neg (by rintro ⟨_, _, h⟩; rw [if_neg (by simp)] at h; exact hx h)]
    · rw [if_neg hz, if_neg (fun h => hz h.1)]
theorem drop_all3' {f : List Int} (hf : f.length = 3) {n : Nat} (h : ∀ j (hj : j < f.length), n ≤ j → f[j] = 0) : (f.drop n).all (· = 0) = true := by
  rw [List.all_eq_true]
  intro x hx
  obtain ⟨i, hi, rfl⟩ := List.getElem_of_mem hx
  rw [List.getElem_drop]
  simp only [List.length_drop] at hi
  simp [h (n + i) (by omega) (by omega)]
set_option maxRecDepth 100000 in
set_option maxHeartbeats 8000000 in
theorem evTextR_any {w : World} {k a b c : Int} {s : ByteArray} (ha : I64 a) (hb : I64 b) (hc : I64 c) (hs : s.size ≤ 65536) : Calls Tryz.prog 37 #[.agg #[.int .i64 k, .int .i64 a, .int .i64 b, .int .i64 c, .string s]] w (RetTE w (evTextT k [a, b, c] (txt s))) := by
  obtain ⟨w1, hw1⟩ : ∃ w1, w1 = w.alloc (.cells #[.int .i64 k, .int .i64 a, .int .i64 b, .int .i64 c, .string s] 26) := ⟨_, rfl⟩
  have l1 : Below w.heap.size w w1 := by rw [hw1]; exact (Below.refl _ _).alloc (Nat.le_refl _) _
  have bR : Blk w1 w.heap.size #[.int .i64 k, .int .i64 a, .int .i64 b, .int .i64 c, .string s] 26 := by rw [hw1]; exact Blk.new w _ _
  obtain ⟨res, hres⟩ : ∃ res, res = evTextT k [a, b, c] (txt s) := ⟨_, rfl⟩
  rw [← hres]
  obtain ⟨f, hf⟩ : ∃ f : List Int, f = [a, b, c] := ⟨_, rfl⟩
  have hfl : f.length = 3 := by rw [hf]; rfl
  have hcf : ∀ i (h : i < f.length), (#[.int .i64 a, .int .i64 b, .int .i64 c] : Array Value)[i]? = some (.int .i64 f[i]) := fun i h => by
    have h5 : i < 3 := by omega
    subst hf
    match i, h5 with
    | 0, _ => rfl
    | 1, _ => rfl
    | 2, _ => rfl
  have hfi : ∀ x ∈ f, I64 x := by
    rw [hf]
    intro x hx
    simp only [List.mem_cons, List.not_mem_nil, or_false] at hx
    rcases hx with rfl | rfl | rfl
    · exact ha
    · exact hb
    · exact hc
  rw [← hf, ev_valid] at hres
  have HND := named_any0 k w1
  obtain ⟨hn3, hw64⟩ := refNamed_le k
  generalize hrn : refNamed k = rn at *
  obtain ⟨wd, n, tk⟩ := rn
  simp only at hres hn3 hw64
  have HN := Lib.hid HND
  have HW := Lib.hid hw1
  have HRES := Lib.hid hres
  have HCF := Lib.hid hcf
  have HFL := Lib.hid hfl
  have HFI := Lib.hid hfi
  have HT := Lib.hid (token_any s)
  have hs' : s.size ≤ 281474976710656 := by omega
  clear HND hw1 hres hcf hfl hfi hf ha hb hc hrn
  go_enter Tryz.func37, Tryz.ntmps37
  go_wp2_with fail
  rw [← HW.out]
  refine HN.out.mono ?_
  rintro ex w2 ⟨b2, sw, rfl, hsw⟩
  simp only at hsw ⊢
  have l2 := l1.trans (b2.mono l1.size)
  have B2 := bR.below b2
  have s1 : w2.cell? ⟨w.heap.size, 1, none⟩ = some (.int .i64 a) := (B2.cell 1).trans rfl
  have s2 : w2.cell? ⟨w.heap.size, 2, none⟩ = some (.int .i64 b) := (B2.cell 2).trans rfl
  have s3 : w2.cell? ⟨w.heap.size, 3, none⟩ = some (.int .i64 c) := (B2.cell 3).trans rfl
  have s4 : w2.cell? ⟨w.heap.size, 4, none⟩ = some (.string s) := (B2.cell 4).trans rfl
  obtain ⟨w3, hw3⟩ : ∃ w3, w3 = w2.alloc (.cells #[.int .i64 a, .int .i64 b, .int .i64 c] 96) := ⟨_, rfl⟩
  have b3 : Blk w3 w2.heap.size #[.int .i64 a, .int .i64 b, .int .i64 c] 96 := by rw [hw3]; exact Blk.new w2 _ _
  have l23 : Below w2.heap.size w2 w3 := by rw [hw3]; exact (Below.refl _ _).alloc (Nat.le_refl _) _
  have l3 := l2.trans (l23.mono l2.size)
  have e4 := cell_below s4 l23
  have hc3 : ∀ i (h : i < f.length), w3.cell? ⟨w2.heap.size, i, none⟩ = some (.int .i64 f[i]) := fun i h => by rw [b3.cell i]; exact HCF.out i h
  have hswl : sw.size ≤ 64 := by
    have : (txt sw).length = sw.size := by simp
    rw [← this, hsw]; exact hw64
  have HS := Lib.hid hsw
  have HC3 := Lib.hid hc3
  have H3 := Lib.hid hw3
  have L1 : (⟨#[32]⟩ : ByteArray).size = 1 := rfl
  clear hsw hc3 hw3 b3 HN HW HCF bR B2
  go_upto_region 3 with fail
  rw [← H3.out]
  clear s1 s2 s3 s4
  go_wp2_with fail
  go_loop [8] (fun t => ∃ i : Nat, t = .int .i64 i ∧ n ≤ i ∧ i ≤ 3 ∧ ∀ q (hq : q < f.length), n ≤ q → q < i → f[q] = 0) (fun t => 3 - (intOf t).toNat)
  case atStart => exact ⟨n, rfl, Nat.le_refl _, hn3, fun q hq h1 h2 => by omega⟩
  case round =>
    obtain ⟨i, rfl, hni, hi, hz⟩ := hrel
    have HZ := Lib.hid hz
    clear hz
    by_cases hlt : i < 3
    · have hqi : i < f.length := by have := HFL.out; omega
      have hci := HC3.out i hqi
      have HX := Lib.hid (drop_not hqi hni)
      have HQ := Lib.hid (show ∀ x, x = f[i] → x = 0 → ∀ q (hq : q < f.length), n ≤ q → q < i + 1 → f[q] = 0 from fun x hx h0 q hq h1 h2 => by
        by_cases e : q = i
        · subst e; rw [← hx]; exact h0
        · exact HZ.out q hq h1 (by omega))
      obtain ⟨x, hx⟩ : ∃ x, x = f[i] := ⟨_, rfl⟩
      rw [← hx] at hci HX
      have HXE := Lib.hid hx
      clear hx
      by_cases h0 : x = 0
      · have d0 : (x != 0) = false := by simp [h0]
        have H0 := Lib.hid h0
        clear h0
        go_wp2_with fail
        go_round
        case rel => exact ⟨i + 1, by go_num, by omega, by omega, HQ.out x HXE.out H0.out⟩
        case measure => simp [intOf]; omega
      · have d0 : (x != 0) = true := by simp [h0]
        have hr : res = ([], 2) := by rw [HRES.out, if_neg (by rw [HX.out h0]; simp)]
        have HR := Lib.hid hr
        clear hr h0
        go_wp2_with fail
        go_ret2
        unfold RetTE
        rw [HR.out]
        exact ⟨l3, _, rfl, rfl⟩
    · have hi3 : i = 3 := by omega
      have hall : (f.drop n).all (· = 0) = true := drop_all3' HFL.out (fun q hq h => HZ.out q hq h (by have := HFL.out; omega))
      have HALL := Lib.hid hall
      clear hall HZ
      by_cases he : wd = []
      · have d1 : (sw.toList == []) = true := by rw [lit_str']; exact decide_eq_true (HS.out.trans he)
        have hr : res = ([], 2) := by rw [HRES.out, if_neg (by rintro ⟨_, h, _⟩; exact h he)]
        have HR := Lib.hid hr
        clear hr he
        go_wp2_with fail
        go_ret2
        unfold RetTE
        rw [HR.out]
        exact ⟨l3, _, rfl, rfl⟩
      have d1 : (sw.toList == []) = false := by rw [lit_str', HS.out]; exact decide_eq_false he
      have HNE := Lib.hid he
      clear he
      by_cases hx : (if tk then isTokL (txt s) = true else txt s = [])
      rotate_left
      · have hr : res = ([], 2) := by rw [HRES.out, if_neg (by rintro ⟨_, _, h⟩; exact hx h)]
        have HR := Lib.hid hr
        cases tk with
        | true =>
          have hx' : isTokL (txt s) = false := by rw [if_pos rfl] at hx; simpa using hx
          rw [hx'] at HT
          clear hr hx hx'
          go_wp2_with (go_at_call 72; refine (HT.out _ hs').mono ?_; rintro ex w4 ⟨rfl, rfl⟩)
          go_ret2
          unfold RetTE
          rw [HR.out]
          exact ⟨l3, _, rfl, rfl⟩
        | false =>
          have d2 : (s.toList == []) = false := by rw [lit_str']; rw [if_neg (by simp)] at hx; exact decide_eq_false hx
          clear hr hx
          go_wp2_with fail
          go_ret2
          unfold RetTE
          rw [HR.out]
          exact ⟨l3, _, rfl, rfl⟩
      have hr : res = (lineT wd (f.take n) ++ (if tk then 32 :: txt s else []), 0) := by rw [HRES.out, if_pos ⟨HALL.out, HNE.out, hx⟩]
      have HR := Lib.hid hr
      have HX := Lib.hid hx
      clear hr hx
      have HT2 : tk = true → isTokL (txt s) = true := fun h => by have := HX.out; rw [if_pos h] at this; exact this
      have HT3 : tk = false → txt s = [] := fun h => by have := HX.out; rw [if_neg (by simp [h])] at this; exact this
      cases tk with
      | true =>
        have ht := HT2 rfl
        rw [ht] at HT
        clear HT2 HT3 ht
        go_wp2_with (go_at_call 72; refine (HT.out _ hs').mono ?_; rintro ex w4 ⟨rfl, rfl⟩)
        go_loop [9, 4] (fun t v => ∃ (i : Nat) (sp : ByteArray), t = .int .i64 i ∧ i ≤ n ∧ v = .string sp ∧ txt sp = lineT wd (f.take i) ∧ sp.size ≤ 64 + 41 * i) (fun t v => n - (intOf t).toNat)
        case atStart => exact ⟨0, sw, rfl, Nat.zero_le _, rfl, by rw [HS.out, List.take_zero]; simp [lineT], by omega⟩
        case round =>
          obtain ⟨i, sp, rfl, hin, rfl, hsp, hsz⟩ := hrel
          have HSP := Lib.hid hsp
          clear hsp
          by_cases hlt : i < n
          · have dl : decide ((i : Int) < (n : Int)) = true := decide_eq_true (by omega)
            have hqi : i < f.length := by have := HFL.out; omega
            have hci := HC3.out i hqi
            have hxi : I64 f[i] := HFI.out _ (List.getElem_mem hqi)
            have hst : f.take (i + 1) = f.take i ++ [f[i]] := List.take_succ_eq_append_getElem hqi
            obtain ⟨x, hx⟩ : ∃ x, x = f[i] := ⟨_, rfl⟩
            rw [← hx] at hci hxi hst
            have HST := Lib.hid hst
            have HNU := Lib.hid (number_any hxi w4)
            have HXI := Lib.hid hxi
            have hc1 := cat_ok (a := sp) (b := ⟨#[32]⟩) (by omega)
            clear hx hst hxi
            go_wp2_with fail
            refine HNU.out.mono ?_
            rintro ex w6 ⟨s1, rfl, t1, rfl⟩
            have y1 := short_num HXI.out t1
            have hc2 := cat_ok (a := sp ++ ⟨#[32]⟩) (b := s1) (by simp only [ByteArray.size_append]; omega)
            have T1 := Lib.hid t1
            clear t1
            go_wp2_with fail
            go_round
            case rel => exact ⟨i + 1, _, by go_num, by omega, rfl, by rw [HST.out, line_snoc, txt_append, txt_append, HSP.out, T1.out]; simp; rfl, by simp only [ByteArray.size_append]; omega⟩
            case measure => simp [intOf]; omega
          · have hin2 : i = n := by omega
            have dl : decide ((i : Int) < (n : Int)) = false := decide_eq_false (by omega)
            have hsp2 : txt sp = lineT wd (f.take n) := by rw [HSP.out, hin2]
            have HSP2 := Lib.hid hsp2
            clear HSP hsp2 hin2
            have hc1 := cat_ok (a := sp) (b := ⟨#[32]⟩) (by omega)
            have hc2 := cat_ok (a := sp ++ ⟨#[32]⟩) (b := s) (by simp only [ByteArray.size_append]; omega)
            go_wp2_with fail
            go_ret2
            unfold RetTE
            rw [HR.out]
            exact ⟨l3, _, rfl, by rw [txt_append, txt_append, HSP2.out]; simp; rfl⟩
      | false =>
        have d2 : (s.toList == []) = true := by rw [lit_str']; exact decide_eq_true (HT3 rfl)
        clear HT2 HT3
        go_wp2_with fail
        go_loop [9, 4] (fun t v => ∃ (i : Nat) (sp : ByteArray), t = .int .i64 i ∧ i ≤ n ∧ v = .string sp ∧ txt sp = lineT wd (f.take i) ∧ sp.size ≤ 64 + 41 * i) (fun t v => n - (intOf t).toNat)
        case atStart => exact ⟨0, sw, rfl, Nat.zero_le _, rfl, by rw [HS.out, List.take_zero]; simp [lineT], by omega⟩
        case round =>
          obtain ⟨i, sp, rfl, hin, rfl, hsp, hsz⟩ := hrel
          have HSP := Lib.hid hsp
          clear hsp
          by_cases hlt : i < n
          · have dl : decide ((i : Int) < (n : Int)) = true := decide_eq_true (by omega)
            have hqi : i < f.length := by have := HFL.out; omega
            have hci := HC3.out i hqi
            have hxi : I64 f[i] := HFI.out _ (List.getElem_mem hqi)
            have hst : f.take (i + 1) = f.take i ++ [f[i]] := List.take_succ_eq_append_getElem hqi
            obtain ⟨x, hx⟩ : ∃ x, x = f[i] := ⟨_, rfl⟩
            rw [← hx] at hci hxi hst
            have HST := Lib.hid hst
            have HNU := Lib.hid (number_any hxi w3)
            have HXI := Lib.hid hxi
            have hc1 := cat_ok (a := sp) (b := ⟨#[32]⟩) (by omega)
            clear hx hst hxi
            go_wp2_with fail
            refine HNU.out.mono ?_
            rintro ex w6 ⟨s1, rfl, t1, rfl⟩
            have y1 := short_num HXI.out t1
            have hc2 := cat_ok (a := sp ++ ⟨#[32]⟩) (b := s1) (by simp only [ByteArray.size_append]; omega)
            have T1 := Lib.hid t1
            clear t1
            go_wp2_with fail
            go_round
            case rel => exact ⟨i + 1, _, by go_num, by omega, rfl, by rw [HST.out, line_snoc, txt_append, txt_append, HSP.out, T1.out]; simp; rfl, by simp only [ByteArray.size_append]; omega⟩
            case measure => simp [intOf]; omega
          · have hin2 : i = n := by omega
            have dl : decide ((i : Int) < (n : Int)) = false := decide_eq_false (by omega)
            have hsp2 : txt sp = lineT wd (f.take n) := by rw [HSP.out, hin2]
            have HSP2 := Lib.hid hsp2
            clear HSP hsp2 hin2
            go_wp2_with fail
            go_ret2
            unfold RetTE
            rw [HR.out]
            exact ⟨l3, _, rfl, by rw [HSP2.out]; simp⟩
end Go.Proofs.YtddnmocoaahlfaaGreatDoor
