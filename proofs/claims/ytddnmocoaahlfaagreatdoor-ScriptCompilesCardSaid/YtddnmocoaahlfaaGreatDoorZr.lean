/-
  Steps for arrays that are written out: built, laid into a new block, in one step each.
  A whole struct stored into a block of the call's own.
  The reference's Word, Valid and Text.
  The reference's reading of number texts in plain Lean: what a number text looks like.
  The reference's Read, Parts, numbers and Kind.
  The reference's numbers and Kind.
  The written-out arrays of the reference's Named and plantLine, in one step each.
  The reference's Named, and both checks of tokens.
  EventText.
  The reference's Of.
  Slices without their first element, whatever their capacity, in one step.
  The reference's Parse.
  undec and undecAll.
  The reference's Text. Conditions: the numbers are ints; the row of numbers lies in memory; texts of at most 65536 bytes; the row of strings lies in memory; the package-level variables hold what the program lays; lines of at most 65536 bytes.
-/
import Derived.Test.YtddnmocoaahlfaaGreatDoorBase
import Derived.Deep.WholeRow
import Derived.Test.YtddnmocoaahlfaaGreatDoorMach
import Derived.Test.YtddnmocoaahlfaaGreatDoorLine2
import Derived.Test.YtddnmocoaahlfaaGreatDoorY36
import Derived.Test.YtddnmocoaahlfaaGreatDoorY33
import Derived.Deep.DeepCutAuto
set_option linter.unusedVariables false
set_option linter.unusedSimpArgs false
set_option maxRecDepth 100000
set_option maxHeartbeats 8000000
namespace Go.Proofs.YtddnmocoaahlfaaGreatDoor
open Go.RowKit
theorem wpList_val {P : Program} {w w' : World} {ops : Array Oper} {rest : List Oper} {o : Oper} {a : Act} {Q : Exit → Act → World → Prop} (hgd : o.guard = none) (S : Sem Value) (hex : execOp a.eval o = (do pure (.value (← S))))
    (v : Value) (hrun : S.run P w = .ok v w') (h : wpList P ops Q rest (a.put o.dst v) w') : wpList P ops Q (o :: rest) a w := by
  refine wpList_plain hgd fun K hK => ?_
  unfold Oper.wp
  simp only [hex, Sem.run_bind, Sem.run_pure, hrun, Result.andThen_ok]
  exact hK _ _ h
theorem wpList_unit {P : Program} {w w' : World} {ops : Array Oper} {rest : List Oper} {o : Oper} {a : Act} {Q : Exit → Act → World → Prop} (hgd : o.guard = none) (hd : o.dst = none) (S : Sem Unit) (hex : execOp a.eval o = (do S; pure .skip))
    (hrun : S.run P w = .ok () w') (h : wpList P ops Q rest a w') : wpList P ops Q (o :: rest) a w := by
  refine wpList_plain hgd fun K hK => ?_
  unfold Oper.wp
  simp only [hex, Sem.run_bind, Sem.run_pure, hrun, Result.andThen_ok]
  refine hK _ _ ?_
  rw [hd]
  exact h
def aWords : Array Value := #[.string ⟨#[]⟩, .string ⟨#[109, 111, 117, 110, 116]⟩, .string ⟨#[112, 114, 105, 110, 116]⟩, .string ⟨#[116, 105, 99, 107]⟩, .string ⟨#[115, 112, 111, 105, 108]⟩, .string ⟨#[114, 101, 112, 97, 105, 114]⟩, .string ⟨#[105, 110, 115, 112, 101, 99, 116]⟩, .string ⟨#[99, 117, 116]⟩, .string ⟨#[98, 101, 103, 105, 110]⟩, .string ⟨#[108, 111, 111, 107]⟩, .string ⟨#[109, 111, 118, 101]⟩, .string ⟨#[99, 111, 109, 109, 105, 116]⟩, .string ⟨#[97, 98, 111, 114, 116]⟩, .string ⟨#[100, 101, 115, 116, 114, 111, 121]⟩, .string ⟨#[97, 117, 100, 105, 116]⟩, .string ⟨#[115, 97, 118, 101]⟩, .string ⟨#[99, 104, 101, 99, 107]⟩, .string ⟨#[99, 114, 97, 115, 104]⟩]
def aWordsZ : Array Value := #[.string ⟨#[]⟩, .string ⟨#[]⟩, .string ⟨#[]⟩, .string ⟨#[]⟩, .string ⟨#[]⟩, .string ⟨#[]⟩, .string ⟨#[]⟩, .string ⟨#[]⟩, .string ⟨#[]⟩, .string ⟨#[]⟩, .string ⟨#[]⟩, .string ⟨#[]⟩, .string ⟨#[]⟩, .string ⟨#[]⟩, .string ⟨#[]⟩, .string ⟨#[]⟩, .string ⟨#[]⟩, .string ⟨#[]⟩]
theorem aWords_build (w : World) : (Instr.build 165 #[(0, .string ⟨#[]⟩), (1, .string ⟨#[109, 111, 117, 110, 116]⟩), (2, .string ⟨#[112, 114, 105, 110, 116]⟩), (3, .string ⟨#[116, 105, 99, 107]⟩), (4, .string ⟨#[115, 112, 111, 105, 108]⟩), (5, .string ⟨#[114, 101, 112, 97, 105, 114]⟩), (6, .string ⟨#[105, 110, 115, 112, 101, 99, 116]⟩), (7, .string ⟨#[99, 117, 116]⟩), (8, .string ⟨#[98, 101, 103, 105, 110]⟩), (9, .string ⟨#[108, 111, 111, 107]⟩), (10, .string ⟨#[109, 111, 118, 101]⟩), (11, .string ⟨#[99, 111, 109, 109, 105, 116]⟩), (12, .string ⟨#[97, 98, 111, 114, 116]⟩), (13, .string ⟨#[100, 101, 115, 116, 114, 111, 121]⟩), (14, .string ⟨#[97, 117, 100, 105, 116]⟩), (15, .string ⟨#[115, 97, 118, 101]⟩), (16, .string ⟨#[99, 104, 101, 99, 107]⟩), (17, .string ⟨#[99, 114, 97, 115, 104]⟩)]).run Tryz.prog w = .ok (.agg aWords) w := by kernel_rfl
theorem aWords_alloc (w : World) : (Instr.alloc 165 true (.tuple #[])).run Tryz.prog w = .ok (.pointer (some ⟨w.heap.size, 0, none⟩)) (w.alloc (.cells aWordsZ 165)) := by kernel_rfl
theorem aWords_store (w : World) : (Instr.storeAt 165 (.pointer (some ⟨w.heap.size, 0, none⟩)) (.agg aWords)).run Tryz.prog (w.alloc (.cells aWordsZ 165)) = .ok () (w.alloc (.cells aWords 165)) := run_storeAt_new w 165 aWordsZ aWords (by kernel_rfl) rfl (by kernel_rfl)
def aFields : Array Value := #[.int .i64 0, .int .i64 1, .int .i64 2, .int .i64 0, .int .i64 2, .int .i64 2, .int .i64 4, .int .i64 1, .int .i64 0, .int .i64 3, .int .i64 5, .int .i64 1, .int .i64 1, .int .i64 4, .int .i64 3, .int .i64 0, .int .i64 0, .int .i64 0]
def aFieldsZ : Array Value := #[.int .i64 0, .int .i64 0, .int .i64 0, .int .i64 0, .int .i64 0, .int .i64 0, .int .i64 0, .int .i64 0, .int .i64 0, .int .i64 0, .int .i64 0, .int .i64 0, .int .i64 0, .int .i64 0, .int .i64 0, .int .i64 0, .int .i64 0, .int .i64 0]
theorem aFields_build (w : World) : (Instr.build 166 #[(0, .int .i64 0), (1, .int .i64 1), (2, .int .i64 2), (3, .int .i64 0), (4, .int .i64 2), (5, .int .i64 2), (6, .int .i64 4), (7, .int .i64 1), (8, .int .i64 0), (9, .int .i64 3), (10, .int .i64 5), (11, .int .i64 1), (12, .int .i64 1), (13, .int .i64 4), (14, .int .i64 3), (15, .int .i64 0), (16, .int .i64 0), (17, .int .i64 0)]).run Tryz.prog w = .ok (.agg aFields) w := by kernel_rfl
theorem aFields_alloc (w : World) : (Instr.alloc 166 true (.tuple #[])).run Tryz.prog w = .ok (.pointer (some ⟨w.heap.size, 0, none⟩)) (w.alloc (.cells aFieldsZ 166)) := by kernel_rfl
theorem aFields_store (w : World) : (Instr.storeAt 166 (.pointer (some ⟨w.heap.size, 0, none⟩)) (.agg aFields)).run Tryz.prog (w.alloc (.cells aFieldsZ 166)) = .ok () (w.alloc (.cells aFields 166)) := run_storeAt_new w 166 aFieldsZ aFields (by kernel_rfl) rfl (by kernel_rfl)
end Go.Proofs.YtddnmocoaahlfaaGreatDoor
namespace Go.Proofs.YtddnmocoaahlfaaGreatDoor
open Go.RowKit
theorem setRow_heap (w : World) (R : Nat) (cs c' : Array Value) (t : TypeId) (h : Blk w R cs t) : Blk (w.setRow R c') R c' t := by
  unfold Blk at *
  unfold World.setRow
  simp [Array.getElem?_modify, h]
theorem setRow_other (w : World) (R : Nat) (c' : Array Value) {k : Nat} (h : k ≠ R) : (w.setRow R c').heap[k]? = w.heap[k]? := by
  unfold World.setRow
  simp [Array.getElem?_modify, Ne.symm h]
theorem setRow_stays (w : World) (R : Nat) (c' : Array Value) : Stays (fun k => k = R) w (w.setRow R c') :=
  ⟨rfl, rfl, rfl, by unfold World.setRow; simp, fun k hk hn => setRow_other w R c' hn⟩
theorem blk_store {w : World} {R : Nat} {cs c' : Array Value} {t : TypeId} (h : Blk w R cs t) (hi : (Tryz.prog.info? t).map (·.size) = some c'.size) (ho : cs.size = c'.size) (h1 : c'.toList.all (·.oneCell') = true) :
    (Instr.storeAt t (.pointer (some ⟨R, 0, none⟩)) (.agg c')).run Tryz.prog w = .ok () (w.setRow R c') := by
  simp only [Instr.storeAt, Instr.sureAddr, Sem.run_bind, Sem.run_pure, Result.andThen]
  exact run_storeVar_row _ _ t t cs c' h hi ho (by rw [← Array.all_toList]; exact h1)
theorem size24 : (Tryz.prog.info? 24).map (·.size) = some 7 := by kernel_rfl
end Go.Proofs.YtddnmocoaahlfaaGreatDoor
namespace Go.Proofs.YtddnmocoaahlfaaGreatDoor
open Go.RowKit Go.Shelf
def refWord (k : Int) : List UInt8 × Nat := if k < 1 ∨ k > 17 then ([], 0) else (wordOf k.toNat, fieldsOf k.toNat)
theorem ws_get : ∀ i, i < 18 → aWords[i]? = some (.string ⟨(if i = 0 then [] else wordOf i).toArray⟩) := by
  intro i hi
  match i, hi with
  | 0, _ => rfl
  | 1, _ => rfl
  | 2, _ => rfl
  | 3, _ => rfl
  | 4, _ => rfl
  | 5, _ => rfl
  | 6, _ => rfl
  | 7, _ => rfl
  | 8, _ => rfl
  | 9, _ => rfl
  | 10, _ => rfl
  | 11, _ => rfl
  | 12, _ => rfl
  | 13, _ => rfl
  | 14, _ => rfl
  | 15, _ => rfl
  | 16, _ => rfl
  | 17, _ => rfl
  | n + 18, h => exact absurd h (by omega)
theorem fs_get : ∀ i, i < 18 → aFields[i]? = some (.int .i64 ((if i = 0 then 0 else fieldsOf i : Nat) : Int)) := by
  intro i hi
  match i, hi with
  | 0, _ => rfl
  | 1, _ => rfl
  | 2, _ => rfl
  | 3, _ => rfl
  | 4, _ => rfl
  | 5, _ => rfl
  | 6, _ => rfl
  | 7, _ => rfl
  | 8, _ => rfl
  | 9, _ => rfl
  | 10, _ => rfl
  | 11, _ => rfl
  | 12, _ => rfl
  | 13, _ => rfl
  | 14, _ => rfl
  | 15, _ => rfl
  | 16, _ => rfl
  | 17, _ => rfl
  | n + 18, h => exact absurd h (by omega)
set_option maxHeartbeats 4000000 in
theorem word_any (k : Int) (w : World) : Calls Tryz.prog 56 #[.int .i64 k] w (fun e w' => Below w.heap.size w w' ∧ ∃ s : ByteArray, e = .returned (.tuple #[.string s, .int .i64 (refWord k).2]) ∧ txt s = (refWord k).1) := by
  obtain ⟨w2, hw2⟩ : ∃ w2, w2 = (w.alloc (.cells aWords 165)).alloc (.cells aFields 166) := ⟨_, rfl⟩
  have l2 : Below w.heap.size w w2 := by rw [hw2]; exact ((Below.refl _ _).alloc (Nat.le_refl _) _).alloc (by simp) _
  have L2 := Lib.hid l2
  have z1 : (w.alloc (.cells aWords 165)).heap.size = w.heap.size + 1 := by simp
  have c1 : ∀ n, n < 18 → n ≠ 0 → w2.cell? ⟨w.heap.size, n, none⟩ = some (.string ⟨(wordOf n).toArray⟩) := fun n hn1 hn0 => by
    rw [hw2, ((Blk.new w _ _).alloc _).cell n, ws_get n hn1, if_neg hn0]
  have c2 : ∀ n, n < 18 → n ≠ 0 → w2.cell? ⟨w.heap.size + 1, n, none⟩ = some (.int .i64 (fieldsOf n)) := fun n hn1 hn0 => by
    have h := (Blk.new (w.alloc (.cells aWords 165)) aFields 166).cell n
    rw [z1] at h
    rw [hw2, h, fs_get n hn1, if_neg hn0]
  have C1 := Lib.hid c1
  have C2 := Lib.hid c2
  have HW := Lib.hid hw2
  obtain ⟨wd, hwd⟩ : ∃ wd, wd = (refWord k).1 := ⟨_, rfl⟩
  obtain ⟨fs, hfs⟩ : ∃ fs, fs = (refWord k).2 := ⟨_, rfl⟩
  rw [← hwd, ← hfs]
  have HWD := Lib.hid hwd
  have HFS := Lib.hid hfs
  clear l2 hw2 z1 c1 c2 hwd hfs
  go_enter Tryz.func56, Tryz.ntmps56
  go_upto_region 3 with (first | (refine wpList_val (o := ⟨some 6, _, _, _, _, _⟩) rfl (Instr.build 165 _) rfl _ (aWords_build _) ?_) | (refine wpList_val (o := ⟨some 4, _, _, _, _, _⟩) rfl (Instr.alloc 165 true (.tuple #[])) rfl _ (aWords_alloc _) ?_) | (refine wpList_unit (o := ⟨none, Op.store 165 _ _, _, _, _, _⟩) rfl rfl (Instr.storeAt 165 _ _) rfl (aWords_store _) ?_) | (refine wpList_val (o := ⟨some 7, _, _, _, _, _⟩) rfl (Instr.build 166 _) rfl _ (aFields_build _) ?_) | (refine wpList_val (o := ⟨some 5, _, _, _, _, _⟩) rfl (Instr.alloc 166 true (.tuple #[])) rfl _ (aFields_alloc _) ?_) | (refine wpList_unit (o := ⟨none, Op.store 166 _ _, _, _, _, _⟩) rfl rfl (Instr.storeAt 166 _ _) rfl (aFields_store _) ?_))
  rw [← HW.out]
  clear HW
  by_cases h1 : k < 1
  · have hr : refWord k = ([], 0) := by unfold refWord; rw [if_pos (.inl h1)]
    rw [hr] at HWD HFS
    have d1 : decide (k < 1) = true := decide_eq_true h1
    have e2 : fs = 0 := HFS.out
    have e3 : [] = wd := HWD.out.symm
    subst e2
    clear hr h1
    go_wp2_with fail
    go_ret2
    exact ⟨L2.out, _, rfl, by rw [← e3]⟩
  have d1 : decide (k < 1) = false := decide_eq_false h1
  by_cases h2 : k > 17
  · have hr : refWord k = ([], 0) := by unfold refWord; rw [if_pos (.inr h2)]
    rw [hr] at HWD HFS
    have d2 : decide (17 < k) = true := decide_eq_true h2
    have e2 : fs = 0 := HFS.out
    have e3 : [] = wd := HWD.out.symm
    subst e2
    clear hr h1 h2
    go_wp2_with fail
    go_ret2
    exact ⟨L2.out, _, rfl, by rw [← e3]⟩
  have d2 : decide (17 < k) = false := decide_eq_false h2
  obtain ⟨n, rfl⟩ : ∃ n : Nat, k = n := ⟨k.toNat, by omega⟩
  have hr : refWord n = (wordOf n, fieldsOf n) := by unfold refWord; rw [if_neg (by omega)]; rfl
  rw [hr] at HWD HFS
  have hn0 : n ≠ 0 := by omega
  have hn1 : n < 18 := by omega
  have c1 := C1.out n hn1 hn0
  have c2 := C2.out n hn1 hn0
  have hf : fs = fieldsOf n := HFS.out
  have hw : wd = wordOf n := HWD.out
  rw [← hf] at c2
  rw [← hw] at c1
  clear hr hn0 C1 C2 HWD HFS hf hw
  go_wp2_with fail
  go_quiet (fail)
  go_wp2_with fail
  go_ret2
  exact ⟨L2.out.trans ((drewN_below w2 _).mono L2.out.size), _, rfl, rfl⟩
theorem refWord_le (k : Int) : (refWord k).2 ≤ 5 ∧ (refWord k).1.length ≤ 64 := by
  unfold refWord
  split
  · exact ⟨Nat.zero_le _, Nat.zero_le _⟩
  · rename_i h
    obtain ⟨j, hj, e⟩ : ∃ j, j < 17 ∧ k.toNat = j + 1 := ⟨k.toNat - 1, by omega, by omega⟩
    rw [e]
    simp only
    rw [word_get hj, fields_get hj]
    exact ⟨acts_le j hj, word_len j hj⟩
end Go.Proofs.YtddnmocoaahlfaaGreatDoor
namespace Go.Proofs.YtddnmocoaahlfaaGreatDoor
open Go.Lib
theorem valFrom_snoc (acc : Nat) (l : List UInt8) (c : UInt8) : valFrom acc (l ++ [c]) = 10 * valFrom acc l + (c.toNat - 48) := by unfold valFrom; simp
def unsig (s : List UInt8) : List UInt8 := if s.headD 0 = 45 then s.tail else s
theorem undec_shape {s : List UInt8} {v : Int} (h : undecL s = some v) :
    (∀ c ∈ unsig s, isDig c = true) ∧ valFrom 0 (unsig s) = v.natAbs ∧ (s.headD 0 = 45 ↔ v < 0) ∧ s ≠ [] ∧ s.length ≤ 20 ∧ I64 v := by
  obtain ⟨h1, rfl⟩ := undec_iff.1 h
  have hI := h1
  unfold I64 at h1
  unfold itoa unsig
  by_cases hn : v < 0
  · rw [if_pos hn]
    obtain ⟨d1, d2, c, t, d3, d4⟩ := decDigits_facts v.natAbs
    simp only [List.headD_cons, if_true, List.tail_cons]
    have hl := decDigits_len 18 v.natAbs (by omega)
    exact ⟨d1, d2, by simp [hn], by simp, by simp; omega, hI⟩
  · rw [if_neg hn]
    obtain ⟨d1, d2, c, t, d3, d4⟩ := decDigits_facts v.toNat
    have hl := decDigits_len 18 v.toNat (by omega)
    have hc : (decDigits v.toNat).headD 0 ≠ 45 := by
      rw [d3]
      simp only [List.headD_cons]
      intro e
      have := d1 c (by rw [d3]; simp)
      rw [e] at this
      exact absurd this (by decide)
    rw [if_neg hc]
    exact ⟨d1, by rw [show v.natAbs = v.toNat by omega]; exact d2, by simp only [hn, iff_false]; exact hc, by rw [d3]; simp, by omega, hI⟩
theorem dig_ofNat {c : UInt8} (h : isDig c = true) : UInt8.ofNat (48 + (c.toNat - 48)) = c := by
  have := dig_range h
  rw [show 48 + (c.toNat - 48) = c.toNat by omega]
  exact UInt8.ofNat_toNat
theorem dec_num : ∀ (k : Nat) (d : List UInt8), d.length = k → (∀ c ∈ d, isDig c = true) → d ≠ [] → ¬ (d.headD 0 = 48 ∧ 1 < d.length) → decDigits (numOf d) = d ∧ (1 < d.length → 1 ≤ numOf d) ∧ (d.headD 0 ≠ 48 → 1 ≤ numOf d)
  | 0, d, hk, hd, hne, hz => absurd (List.length_eq_zero_iff.1 hk) hne
  | k + 1, d, hk, hd, hne, hz => by
    have e := List.dropLast_concat_getLast hne
    generalize hc : d.getLast hne = c at e
    generalize hi : d.dropLast = i at e
    subst e
    have hdc := hd c (by simp)
    have hr := dig_range hdc
    rw [numOf_snoc]
    by_cases h0 : i = []
    · subst h0
      have : numOf [] = 0 := rfl
      rw [this, Nat.mul_zero, Nat.zero_add, decDigits_small (by omega), dig_ofNat hdc]
      refine ⟨rfl, by simp, ?_⟩
      simp only [List.nil_append, List.headD_cons]
      intro hc0
      have : c.toNat ≠ 48 := fun e => hc0 (UInt8.toNat_inj.1 e)
      omega
    · have hhd : (i ++ [c]).headD 0 = i.headD 0 := by
        cases i with
        | nil => exact absurd rfl h0
        | cons a b => rfl
      have hlen : 1 < (i ++ [c]).length := by have := List.length_pos_iff.2 h0; simp; omega
      rw [hhd] at hz ⊢
      have hz0 : i.headD 0 ≠ 48 := fun e => hz ⟨e, hlen⟩
      obtain ⟨g1, g2, g3⟩ := dec_num k i (by simp at hk; exact hk) (fun x hx => hd x (by simp [hx])) h0 (fun hh => hz0 hh.1)
      have hpos := g3 hz0
      refine ⟨?_, fun _ => by omega, fun _ => by omega⟩
      rw [decDigits_app (by omega), show (10 * numOf i + (c.toNat - 48)) / 10 = numOf i by omega, g1, show (10 * numOf i + (c.toNat - 48)) % 10 = c.toNat - 48 by omega, dig_ofNat hdc]
theorem undec_digits {d : List UInt8} (hd : ∀ c ∈ d, isDig c = true) (hne : d ≠ []) :
    if (d.headD 0 = 48 ∧ 1 < d.length) ∨ 9007199254740992 < numOf d then (∀ v, undecL d = some v → 9007199254740992 < v) else undecL d = some (numOf d : Int) := by
  have hu : ∀ v, undecL d = some v → numOf d = v.natAbs ∧ ¬ v < 0 ∧ decDigits v.toNat = d := by
    intro v hv
    obtain ⟨h1, h2, h3, h4, h5, h6⟩ := undec_shape hv
    have hc : d.headD 0 ≠ 45 := by
      obtain ⟨c, t, rfl⟩ := List.exists_cons_of_ne_nil hne
      intro e
      have := hd c (by simp)
      simp only [List.headD_cons] at e
      rw [e] at this
      exact absurd this (by decide)
    have hn : ¬ v < 0 := fun h => hc (h3.2 h)
    unfold unsig at h2
    rw [if_neg hc] at h2
    obtain ⟨_, e⟩ := undec_iff.1 hv
    unfold itoa at e
    rw [if_neg hn] at e
    exact ⟨h2, hn, e⟩
  split
  · rename_i h
    intro v hv
    obtain ⟨h1, h2, h3⟩ := hu v hv
    rcases h with ⟨z1, z2⟩ | h
    · exfalso
      obtain ⟨d1, d2, c, t, d3, d4⟩ := decDigits_facts v.toNat
      rw [h3] at d3
      subst d3
      simp only [List.headD_cons] at z1
      have := (d4 z1).2
      rw [this] at z2
      simp at z2
    · omega
  · rename_i h
    have hz : ¬ (d.headD 0 = 48 ∧ 1 < d.length) := fun hh => h (.inl hh)
    have hle : ¬ 9007199254740992 < numOf d := fun hh => h (.inr hh)
    obtain ⟨g1, _, _⟩ := dec_num _ d rfl hd hne hz
    refine undec_iff.2 ⟨⟨by omega, by omega⟩, ?_⟩
    unfold itoa
    rw [if_neg (by omega), show ((numOf d : Nat) : Int).toNat = numOf d by omega]
    exact g1
end Go.Proofs.YtddnmocoaahlfaaGreatDoor
namespace Go.Proofs.YtddnmocoaahlfaaGreatDoor
open Go.RowKit Go.Shelf
structure RdOk (l : List UInt8) (x : Int) (b : Bool) : Prop where
  int : I64 x
  some : b = (undecL l).isSome
  val : ∀ v, undecL l = .some v → x = v
theorem rd_none {l : List UInt8} (h : undecL l = none) : RdOk l 0 false := ⟨⟨by omega, by omega⟩, by rw [h]; rfl, fun v hv => by rw [h] at hv; cases hv⟩
theorem undec_none_of {l : List UInt8} (h : ∀ v, undecL l = some v → False) : undecL l = none := by
  cases hu : undecL l with
  | none => rfl
  | some v => exact (h v hu).elim
theorem rd_fin {l : List UInt8} {x : Int} (hx : I64 x) (h : ∀ v, undecL l = some v → x = v) : RdOk l x (decide (Lib.itoa x = l)) := by
  refine ⟨hx, ?_, h⟩
  by_cases he : Lib.itoa x = l
  · rw [undec_iff.2 ⟨hx, he⟩]; simp [he]
  · have : undecL l = none := undec_none_of fun v hv => he (by rw [h v hv]; exact (undec_iff.1 hv).2)
    rw [this]; simp [he]
theorem wrap_i64 (n : Int) : I64 (wrap64 n) := by unfold I64 wrap64; omega
theorem wrap_in {n : Int} (h : I64 n) : wrap64 n = n := by unfold I64 at h; unfold wrap64; omega
structure RdAt (l : List UInt8) (fr i : Nat) (n : Int) : Prop where
  int : I64 n
  dig : ∀ c ∈ (l.take i).drop fr, isDig c = true
  val : valFrom 0 ((l.take i).drop fr) ≤ 9223372036854775808 → n = -(valFrom 0 ((l.take i).drop fr) : Nat)
theorem take_drop_snoc {l : List UInt8} {fr i : Nat} (hf : fr ≤ i) (hi : i < l.length) : (l.take (i + 1)).drop fr = (l.take i).drop fr ++ [l[i]] := by
  rw [List.take_succ_eq_append_getElem hi, List.drop_append_of_le_length (by rw [List.length_take]; omega)]
theorem RdAt.next {l : List UInt8} {fr i : Nat} {n : Int} (h : RdAt l fr i n) (hf : fr ≤ i) (hi : i < l.length) {c : UInt8} (hc : c = l[i]) (hd : isDig c = true) : RdAt l fr (i + 1) (wrap64 (wrap64 (10 * n) - ((c.toNat : Int) - 48))) := by
  have hr := dig_range hd
  refine ⟨wrap_i64 _, ?_, ?_⟩
  · rw [take_drop_snoc hf hi]
    intro d hm
    rcases List.mem_append.1 hm with hm | hm
    · exact h.dig d hm
    · rw [List.mem_singleton.1 hm, ← hc]; exact hd
  · rw [take_drop_snoc hf hi, valFrom_snoc, ← hc]
    intro hle
    have hn := h.val (by omega)
    rw [hn, wrap_in (n := 10 * _) ⟨by omega, by omega⟩, wrap_in ⟨by omega, by omega⟩]
    omega
theorem unsig_drop (l : List UInt8) : unsig l = l.drop (if l.headD 0 = 45 then 1 else 0) := by
  unfold unsig
  split
  · cases l <;> rfl
  · rfl
theorem byte_get {s : ByteArray} {i : Nat} (h : i < s.size) : (txt s)[i]'(by simpa using h) = s[i] := rfl
def RetRd (w : World) (l : List UInt8) (e : Ending) (w' : World) : Prop := w' = w ∧ ∃ x b, e = .returned (.tuple #[.int .i64 x, .bool b]) ∧ RdOk l x b
theorem read_any (s : ByteArray) (w : World) : Calls Tryz.prog 117 #[.string s] w (RetRd w (txt s)) := by
  have hsz : (txt s).length = s.size := by simp
  by_cases h0 : s.size = 0
  · have d0 : ((s.size : Int) == 0) = true := by simp [h0]
    have hn : undecL (txt s) = none := undec_none_of fun v hv => (undec_shape hv).2.2.2.1 (List.length_eq_zero_iff.1 (by omega))
    have HN := Lib.hid (rd_none hn)
    clear hn hsz h0
    go_enter Tryz.func117, Tryz.ntmps117
    go_wp2_with fail
    go_ret2
    exact ⟨rfl, 0, false, rfl, HN.out⟩
  have d0 : ((s.size : Int) == 0) = false := by simp; intro h; exact h0 (by rw [h]; rfl)
  by_cases h20 : 20 < s.size
  · have d1 : decide ((20 : Int) < (s.size : Int)) = true := decide_eq_true (by omega)
    have hn : undecL (txt s) = none := undec_none_of fun v hv => by have := (undec_shape hv).2.2.2.2.1; omega
    have HN := Lib.hid (rd_none hn)
    clear hn hsz h0
    go_enter Tryz.func117, Tryz.ntmps117
    go_wp2_with fail
    go_ret2
    exact ⟨rfl, 0, false, rfl, HN.out⟩
  have d1 : decide ((20 : Int) < (s.size : Int)) = false := decide_eq_false (by omega)
  have hpos : 0 < s.size := by omega
  have hh : (txt s).headD 0 = s[0] := by
    have := drop_byte (s := s) (i := 0) hpos
    rw [byteAt_lt hpos, List.drop_zero] at this
    rw [this]; rfl
  obtain ⟨fr, hfr⟩ : ∃ fr : Nat, fr = if s[0] = 45 then 1 else 0 := ⟨_, rfl⟩
  have hun : unsig (txt s) = (txt s).drop fr := by rw [unsig_drop, hh, ← hfr]
  have HUN := Lib.hid hun
  have HH := Lib.hid hh
  have HSZ := Lib.hid hsz
  clear hun hh hsz h0
  by_cases hneg : s[0] = 45
  · have z45 : (((s[0]).toNat : Int) == 45) = true := by rw [hneg]; rfl
    rw [if_pos hneg] at hfr
    subst hfr
    have HNG := Lib.hid hneg
    clear hneg
    go_enter Tryz.func117, Tryz.ntmps117
    go_wp2_with fail
    go_loop [6, 5] (fun t v => ∃ (i : Nat) (n : Int), t = .int .i64 i ∧ 1 ≤ i ∧ i ≤ s.size ∧ v = .int .i64 n ∧ RdAt (txt s) 1 i n) (fun t v => s.size - (intOf t).toNat)
    case atStart =>
      refine ⟨1, 0, rfl, Nat.le_refl _, hpos, rfl, ⟨by omega, by omega⟩, ?_, ?_⟩
      · rw [List.drop_take]; simp
      · rw [List.drop_take]; intro _; rfl
    case round =>
      obtain ⟨i, n, rfl, hi1, hi, rfl, hrd⟩ := hrel
      have HR := Lib.hid hrd
      have hn1 := hrd.int.1
      have hn2 := hrd.int.2
      clear hrd
      by_cases hlt : i < s.size
      · obtain ⟨c, hc⟩ : ∃ c, c = s[i] := ⟨_, rfl⟩
        have hcb : (txt s)[i]'(by simpa using hlt) = c := by rw [byte_get hlt, hc]
        have HCB := Lib.hid hcb
        have hmem : c ∈ unsig (txt s) := by
          rw [HUN.out, ← hcb]
          rw [List.mem_iff_getElem]
          exact ⟨i - 1, by simp; omega, by rw [List.getElem_drop]; congr 1; omega⟩
        have HM := Lib.hid hmem
        clear hcb hmem
        have hcs : s[i] = c := hc.symm
        by_cases hd : isDig c = true
        · have hr := dig_range hd
          have e1 : decide (((s[i]).toNat : Int) < 48) = false := by rw [hcs]; exact decide_eq_false (by omega)
          have e2 : decide ((57 : Int) < ((s[i]).toNat : Int)) = false := by rw [hcs]; exact decide_eq_false (by omega)
          have HNX := Lib.hid (HR.out.next hi1 (by rw [HSZ.out]; exact hlt) HCB.out.symm hd)
          rw [hc] at hr HNX
          clear hd hc hcs HM HCB
          go_wp2_with fail
          go_round
          case rel => exact ⟨i + 1, _, by go_num, by omega, by omega, rfl, HNX.out⟩
          case measure => simp [intOf]; omega
        · have hn : undecL (txt s) = none := undec_none_of fun v hv => hd ((undec_shape hv).1 c HM.out)
          have HN := Lib.hid (rd_none hn)
          have hr : c.toNat < 48 ∨ 57 < c.toNat := by
            rcases Nat.lt_or_ge c.toNat 48 with h | h
            · exact .inl h
            · rcases Nat.lt_or_ge 57 c.toNat with h' | h'
              · exact .inr h'
              · exact absurd (by unfold isDig; simp only [Bool.and_eq_true, decide_eq_true_eq, UInt8.le_iff_toNat_le]; exact ⟨h, h'⟩) hd
          clear hn hd HM HCB
          rw [hc] at hr
          rcases hr with hr | hr
          · have e1 : decide (((s[i]).toNat : Int) < 48) = true := decide_eq_true (by omega)
            clear hc hcs
            go_wp2_with fail
            go_ret2
            exact ⟨rfl, 0, false, rfl, HN.out⟩
          · have e1 : decide (((s[i]).toNat : Int) < 48) = false := decide_eq_false (by omega)
            have e2 : decide ((57 : Int) < ((s[i]).toNat : Int)) = true := decide_eq_true (by omega)
            clear hc hcs
            go_wp2_with fail
            go_ret2
            exact ⟨rfl, 0, false, rfl, HN.out⟩
      · have his : i = s.size := by omega
        have hfin : ∀ v, undecL (txt s) = some v → n = v := by
          intro v hv
          obtain ⟨g1, g2, g3, g4, g5, g6⟩ := undec_shape hv
          have hneg : v < 0 := g3.1 (by rw [HH.out]; exact HNG.out)
          have hv2 := HR.out.val
          rw [his, ← HSZ.out, List.take_length, ← HUN.out, g2] at hv2
          unfold I64 at g6
          have := hv2 (by omega)
          omega
        have HF := Lib.hid (rd_fin HR.out.int hfin)
        have HN := Lib.hid (number_any HR.out.int w)
        clear hfin
        go_wp2_with fail
        refine HN.out.mono ?_
        rintro e w1 ⟨s1, rfl, t1, rfl⟩
        have T1 := Lib.hid t1
        clear t1
        go_wp2_with fail
        go_ret2
        refine ⟨rfl, n, s1.toList == s.toList, rfl, ?_⟩
        have : (s1.toList == s.toList) = decide (Lib.itoa n = txt s) := by
          rw [ByteArray.toList_eq s, lit_str', T1.out]
        rw [this]
        exact HF.out
  · have z45 : (((s[0]).toNat : Int) == 45) = false := by
      have : (s[0]).toNat ≠ 45 := fun e => hneg (UInt8.toNat_inj.1 e)
      simp; omega
    rw [if_neg hneg] at hfr
    subst hfr
    have HNG := Lib.hid hneg
    clear hneg
    go_enter Tryz.func117, Tryz.ntmps117
    go_wp2_with fail
    go_loop [6, 5] (fun t v => ∃ (i : Nat) (n : Int), t = .int .i64 i ∧ i ≤ s.size ∧ v = .int .i64 n ∧ RdAt (txt s) 0 i n) (fun t v => s.size - (intOf t).toNat)
    case atStart => exact ⟨0, 0, rfl, Nat.zero_le _, rfl, ⟨by omega, by omega⟩, by simp, fun _ => rfl⟩
    case round =>
      obtain ⟨i, n, rfl, hi, rfl, hrd⟩ := hrel
      have HR := Lib.hid hrd
      have hn1 := hrd.int.1
      have hn2 := hrd.int.2
      clear hrd
      by_cases hlt : i < s.size
      · obtain ⟨c, hc⟩ : ∃ c, c = s[i] := ⟨_, rfl⟩
        have hcb : (txt s)[i]'(by simpa using hlt) = c := by rw [byte_get hlt, hc]
        have HCB := Lib.hid hcb
        have hmem : c ∈ unsig (txt s) := by
          rw [HUN.out, List.drop_zero, ← hcb]
          exact List.getElem_mem _
        have HM := Lib.hid hmem
        clear hcb hmem
        have hcs : s[i] = c := hc.symm
        by_cases hd : isDig c = true
        · have hr := dig_range hd
          have e1 : decide (((s[i]).toNat : Int) < 48) = false := by rw [hcs]; exact decide_eq_false (by omega)
          have e2 : decide ((57 : Int) < ((s[i]).toNat : Int)) = false := by rw [hcs]; exact decide_eq_false (by omega)
          have HNX := Lib.hid (HR.out.next (Nat.zero_le _) (by rw [HSZ.out]; exact hlt) HCB.out.symm hd)
          rw [hc] at hr HNX
          clear hd hc hcs HM HCB
          go_wp2_with fail
          go_round
          case rel => exact ⟨i + 1, _, by go_num, by omega, rfl, HNX.out⟩
          case measure => simp [intOf]; omega
        · have hn : undecL (txt s) = none := undec_none_of fun v hv => hd ((undec_shape hv).1 c HM.out)
          have HN := Lib.hid (rd_none hn)
          have hr : c.toNat < 48 ∨ 57 < c.toNat := by
            rcases Nat.lt_or_ge c.toNat 48 with h | h
            · exact .inl h
            · rcases Nat.lt_or_ge 57 c.toNat with h' | h'
              · exact .inr h'
              · exact absurd (by unfold isDig; simp only [Bool.and_eq_true, decide_eq_true_eq, UInt8.le_iff_toNat_le]; exact ⟨h, h'⟩) hd
          clear hn hd HM HCB
          rw [hc] at hr
          rcases hr with hr | hr
          · have e1 : decide (((s[i]).toNat : Int) < 48) = true := decide_eq_true (by omega)
            clear hc hcs
            go_wp2_with fail
            go_ret2
            exact ⟨rfl, 0, false, rfl, HN.out⟩
          · have e1 : decide (((s[i]).toNat : Int) < 48) = false := decide_eq_false (by omega)
            have e2 : decide ((57 : Int) < ((s[i]).toNat : Int)) = true := decide_eq_true (by omega)
            clear hc hcs
            go_wp2_with fail
            go_ret2
            exact ⟨rfl, 0, false, rfl, HN.out⟩
      · have his : i = s.size := by omega
        obtain ⟨m, hm⟩ : ∃ m, m = wrap64 (-n) := ⟨_, rfl⟩
        have hmI : I64 m := by rw [hm]; exact wrap_i64 _
        have hfin : ∀ v, undecL (txt s) = some v → m = v := by
          intro v hv
          obtain ⟨g1, g2, g3, g4, g5, g6⟩ := undec_shape hv
          have hneg : ¬ v < 0 := fun h => HNG.out (by rw [← HH.out]; exact g3.2 h)
          have hv2 := HR.out.val
          rw [his, ← HSZ.out, List.take_length, ← HUN.out, g2] at hv2
          unfold I64 at g6
          have := hv2 (by omega)
          rw [hm, this, wrap_in ⟨by omega, by omega⟩]
          omega
        have HF := Lib.hid (rd_fin hmI hfin)
        have hnum := number_any hmI w
        rw [hm] at hnum
        have HN := Lib.hid hnum
        have HMM := Lib.hid hm
        clear hfin hm hnum
        go_wp2_with fail
        refine HN.out.mono ?_
        rintro e w1 ⟨s1, rfl, t1, rfl⟩
        rw [← HMM.out] at t1
        have T1 := Lib.hid t1
        clear t1
        go_wp2_with fail
        go_ret2
        rw [← HMM.out]
        refine ⟨rfl, m, s1.toList == s.toList, rfl, ?_⟩
        have : (s1.toList == s.toList) = decide (Lib.itoa m = txt s) := by
          rw [ByteArray.toList_eq s, lit_str', T1.out]
        rw [this]
        exact HF.out
theorem piece_cut {b : UInt8} {l : List UInt8} {fr i : Nat} (hf : fr ≤ i) (hi : i < l.length) (hb : l[i] = b) (hn : b ∉ (l.take i).drop fr) : cutAt b (l.drop fr) = (l.take i).drop fr :: cutAt b (l.drop (i + 1)) := by
  have e : l.drop fr = (l.take i).drop fr ++ b :: l.drop (i + 1) := by
    conv => lhs; rw [← List.take_append_drop i l]
    rw [List.drop_append_of_le_length (by rw [List.length_take]; omega), List.drop_eq_getElem_cons hi, hb]
  rw [e, cutAt_skip hn]
theorem extract_tx (s : ByteArray) (a b : Nat) : txt (s.extract a b) = ((txt s).take b).drop a := by
  show (s.extract a b).data.toList = _
  rw [Lib.extract_data, List.drop_take]
def RetSs (w : World) (l : List (List UInt8)) (e : Ending) (w' : World) : Prop := Below w.heap.size w w' ∧ ∃ (v : Value) (ss : List ByteArray), e = .returned v ∧ w'.ownsRow w.heap.size 9 1 v ss.length (ss.map Value.string) ∧ ss.map txt = l
theorem partsR_any {w : World} (s : ByteArray) (b : UInt8) (hs : s.size ≤ 131072) : Calls Tryz.prog 67 #[.string s, .int .u8 b.toNat] w (RetSs w (cutAt b (txt s))) := by
  obtain ⟨i0, hi0, hz0, hz1, hz2⟩ := info_parts info9
  have HSZ := Lib.hid (show (txt s).length = s.size by simp)
  go_enter Tryz.func67, Tryz.ntmps67
  go_wp2_with fail
  go_loopw [7, 6, 5] (fun t7 t6 t5 wr => ∃ (i fr : Nat) (ss : List ByteArray), t7 = .int .i64 i ∧ t6 = .int .i64 fr ∧ wr.ownsRow w.heap.size 9 1 t5 ss.length (ss.map Value.string) ∧ ss.length ≤ i ∧ Below w.heap.size w wr ∧
    ((i ≤ s.size ∧ fr ≤ i ∧ ss.map txt ++ cutAt b ((txt s).drop fr) = cutAt b (txt s) ∧ b ∉ ((txt s).take i).drop fr) ∨ (i = s.size + 1 ∧ ss.map txt = cutAt b (txt s)))) (fun t7 t6 t5 wr => s.size + 1 - (intOf t7).toNat)
  case atStart => exact ⟨0, 0, [], rfl, rfl, World.ownsRow_nil _ _ _ _, Nat.le_refl _, Below.refl _ _, .inl ⟨Nat.zero_le _, Nat.le_refl _, rfl, by simp⟩⟩
  case round =>
    obtain ⟨i, fr, ss, rfl, rfl, hown, hsl, hbl, hst⟩ := hrel
    have hszr := hbl.size
    rcases hst with ⟨hi, hf, heq, hnb⟩ | ⟨hi, heq⟩
    · have HEQ := Lib.hid heq
      have HNB := Lib.hid hnb
      clear heq hnb
      have d1 : decide ((i : Int) ≤ (s.size : Int)) = true := decide_eq_true (by omega)
      have hex : (s.extract fr i).size = i - fr := by
        have : (txt (s.extract fr i)).length = (s.extract fr i).size := by simp
        rw [← this, extract_tx, List.length_drop, List.length_take, HSZ.out]; omega
      have HEX := Lib.hid hex
      by_cases hlt : i < s.size
      · have d2 : ((i : Int) == (s.size : Int)) = false := by simp; omega
        have hlt' : i < (txt s).length := by rw [HSZ.out]; exact hlt
        by_cases hc : s[i] = b
        · have d3 : (((s[i]).toNat : Int) == (b.toNat : Int)) = true := by rw [hc]; simp
          have hpc := piece_cut hf hlt' (by rw [byte_get hlt]; exact hc) HNB.out
          have HPC := Lib.hid hpc
          clear hpc hc HNB
          go_wp2_with (at_builtin; refine wpList_append_lies _ rfl _ _ 27 rfl w.heap.size 9 i0 (.string ⟨#[]⟩) 1 16 Tryz.underlying27 hi0 hz0 hz1 hz2 rfl (by decide) _ _ _ rfl (hown.alloc _) ⟨wr.heap.size, 0, none⟩ 1 1 [.string (s.extract fr i)] rfl rfl (one_new _ _ _) (by simp [Value.oneCell']) (by decide) (by unfold maxLen; omega) (by omega) (by simp; omega) _ rfl ?_; intro g cap2 w2 hown2 hgr hat hg2)
          have hbl2 : Below w.heap.size w w2 := (hbl.alloc hszr _).grown hgr (by simp; omega) (fun j hj => (hown.lt j hj).1)
          go_wp2_with fail
          go_roundw
          case rel => exact ⟨i + 1, i + 1, ss ++ [s.extract fr i], by go_num, by go_num, by simpa using hown2, by simp; omega, hbl2, .inl ⟨by omega, Nat.le_refl _, by rw [List.map_append, List.append_assoc, ← HEQ.out, HPC.out]; simp [extract_tx], by rw [List.drop_take]; simp⟩⟩
          case measure => simp [intOf]; omega
        · have hne : (s[i]).toNat ≠ b.toNat := fun e => hc (UInt8.toNat_inj.1 e)
          have d3 : (((s[i]).toNat : Int) == (b.toNat : Int)) = false := by simp; omega
          have hnx : b ∉ ((txt s).take (i + 1)).drop fr := by
            rw [take_drop_snoc hf hlt']
            intro hm
            rcases List.mem_append.1 hm with hm | hm
            · exact HNB.out hm
            · rw [List.mem_singleton] at hm
              exact hc (by rw [← byte_get hlt]; exact hm.symm)
          have HNX := Lib.hid hnx
          clear hnx hc hne HNB
          go_wp2_with fail
          go_roundw
          case rel => exact ⟨i + 1, fr, ss, by go_num, rfl, hown, by omega, hbl, .inl ⟨by omega, by omega, HEQ.out, HNX.out⟩⟩
          case measure => simp [intOf]; omega
      · have his : i = s.size := by omega
        subst his
        have d2 : ((s.size : Int) == (s.size : Int)) = true := by simp
        have hpc : cutAt b ((txt s).drop fr) = [((txt s).take s.size).drop fr] := by
          have h := HNB.out
          rw [← HSZ.out, List.take_length] at h ⊢
          rw [cutAt_none h]
        have HPC := Lib.hid hpc
        clear hpc HNB
        go_wp2_with (at_builtin; refine wpList_append_lies _ rfl _ _ 27 rfl w.heap.size 9 i0 (.string ⟨#[]⟩) 1 16 Tryz.underlying27 hi0 hz0 hz1 hz2 rfl (by decide) _ _ _ rfl (hown.alloc _) ⟨wr.heap.size, 0, none⟩ 1 1 [.string (s.extract fr s.size)] rfl rfl (one_new _ _ _) (by simp [Value.oneCell']) (by decide) (by unfold maxLen; omega) (by omega) (by simp; omega) _ rfl ?_; intro g cap2 w2 hown2 hgr hat hg2)
        have hbl2 : Below w.heap.size w w2 := (hbl.alloc hszr _).grown hgr (by simp; omega) (fun j hj => (hown.lt j hj).1)
        go_wp2_with fail
        go_roundw
        case rel => exact ⟨s.size + 1, s.size + 1, ss ++ [s.extract fr s.size], by go_num, by go_num, by simpa using hown2, by simp; omega, hbl2, .inr ⟨rfl, by rw [List.map_append, ← HEQ.out, HPC.out]; simp [extract_tx]⟩⟩
        case measure => simp [intOf]
    · subst hi
      have d1 : decide (((s.size + 1 : Nat) : Int) ≤ (s.size : Int)) = false := decide_eq_false (by omega)
      have HEQ := Lib.hid heq
      clear heq
      go_wp2_with fail
      go_ret
      exact ⟨hbl, _, ss, rfl, hown, HEQ.out⟩
end Go.Proofs.YtddnmocoaahlfaaGreatDoor
namespace Go.Proofs.YtddnmocoaahlfaaGreatDoor
open Go.RowKit Go.Shelf
theorem srw_get {w : World} {p : Option Addr} {n c : Nat} {l : List ByteArray} (h : SRw w (.slice p n c) l) {i : Nat} (hi : i < l.length) : ∃ L o, p = some ⟨L, o, none⟩ ∧ w.cell? ⟨L, o + i, none⟩ = some (.string l[i]) := by
  rcases h with ⟨rfl, _⟩ | ⟨_, L, o, c', h1, _, h3⟩
  · simp at hi
  · injection h1 with h1 _ _
    exact ⟨L, o, h1, h3 i hi⟩
theorem actOf_iff {t : List UInt8} {k : Nat} (h1 : 1 ≤ k) (h2 : k ≤ 17) (h : wordOf k = t) : actOfL t = k := by
  rw [← h]; exact (word_fact h1 h2).2.2.1
theorem actOf_none {t : List UInt8} (h : ∀ j, 1 ≤ j → j < 18 → wordOf j ≠ t) : actOfL t = 0 := by
  by_cases h0 : actOfL t = 0
  · exact h0
  · obtain ⟨a, b, c⟩ := actOf_word rfl h0
    exact absurd a (h _ b (by omega))
theorem kindR_any (s : ByteArray) (w : World) : Calls Tryz.prog 70 #[.string s] w (RetV w (.int .i64 (actOfL (txt s)))) := by
  obtain ⟨res, hres⟩ : ∃ res, res = actOfL (txt s) := ⟨_, rfl⟩
  rw [← hres]
  have HS := Lib.hid hres
  clear hres
  go_enter Tryz.func70, Tryz.ntmps70
  go_wp2_with fail
  go_loopw [3] (fun t wr => ∃ k : Nat, t = .int .i64 k ∧ 1 ≤ k ∧ k ≤ 18 ∧ Below w.heap.size w wr ∧ ∀ j, 1 ≤ j → j < k → wordOf j ≠ txt s) (fun t wr => 18 - (intOf t).toNat)
  case atStart => exact ⟨1, rfl, Nat.le_refl _, by decide, Below.refl _ _, fun j h1 h2 => by omega⟩
  case round =>
    obtain ⟨k, rfl, hk1, hk, hbl, hne⟩ := hrel
    have HNE := Lib.hid hne
    clear hne
    by_cases hlt : k < 18
    · have hrw : refWord k = (wordOf k, fieldsOf k) := by unfold refWord; rw [if_neg (by omega)]; rfl
      have HW := word_any k wr
      rw [hrw] at HW
      have HWW := Lib.hid HW
      have HA := Lib.hid (actOf_iff (t := txt s) hk1 (by omega))
      clear HW hrw
      obtain ⟨wd, hwd⟩ : ∃ wd, wd = wordOf k := ⟨_, rfl⟩
      rw [← hwd] at HWW HA
      have HWD := Lib.hid hwd
      clear hwd
      generalize fieldsOf k = fs at *
      go_wp2_with fail
      refine HWW.out.mono ?_
      rintro e w1 ⟨b1, sw, rfl, hsw⟩
      have hbl1 := hbl.trans (b1.mono hbl.size)
      have he0 : (sw.toList == s.toList) = decide (wd = txt s) := by rw [ByteArray.toList_eq s, lit_str', hsw]
      by_cases hc : wd = txt s
      · rw [decide_eq_true hc] at he0
        have hr : res = k := by rw [HS.out]; exact HA.out hc
        subst hr
        clear hc hsw
        go_wp2_with fail
        go_ret
        exact ⟨rfl, hbl1⟩
      · rw [decide_eq_false hc] at he0
        have HC := Lib.hid hc
        clear hc hsw
        go_wp2_with fail
        go_roundw
        case rel =>
          refine ⟨k + 1, by go_num, by omega, by omega, hbl1, fun j h1 h2 => ?_⟩
          by_cases hjk : j = k
          · rw [hjk, ← HWD.out]; exact HC.out
          · exact HNE.out j h1 (by omega)
        case measure => simp [intOf]; omega
    · have hk18 : k = 18 := by omega
      have hr : res = 0 := by rw [HS.out]; exact actOf_none (fun j h1 h2 => HNE.out j h1 (by omega))
      subst hr
      subst hk18
      go_wp2_with fail
      go_ret
      exact ⟨rfl, hbl⟩
end Go.Proofs.YtddnmocoaahlfaaGreatDoor
namespace Go.Proofs.YtddnmocoaahlfaaGreatDoor
open Go.RowKit
end Go.Proofs.YtddnmocoaahlfaaGreatDoor
namespace Go.Proofs.YtddnmocoaahlfaaGreatDoor
open Go.RowKit Go.Shelf
end Go.Proofs.YtddnmocoaahlfaaGreatDoor
namespace Go.Proofs.YtddnmocoaahlfaaGreatDoor
open Go.RowKit Go.Shelf
end Go.Proofs.YtddnmocoaahlfaaGreatDoor
namespace Go.Proofs.YtddnmocoaahlfaaGreatDoor
open Go.RowKit Go.Shelf
def takesR (k n : Nat) : Bool := if k = 17 then decide (n ≤ 16) else decide (n = (refWord k).2)
def RetOf (w : World) (k : Nat) (v : Value) (l : List Int) (e : Ending) (w' : World) : Prop := Below w.heap.size w w' ∧ ∃ (k' a b c d f : Int) (kv : Value) (kp : List Int), e = .returned (.tuple #[actV k' a b c d f kv, .bool (takesR k l.length)]) ∧ NRow w' kv kp ∧ ((∃ p n c, kv = .slice p n c) ∧ (kv = .slice none 0 0 ∨ kv = v)) ∧ (takesR k l.length = true → k' = k ∧ makeActL k l = ⟨k, [a, b, c, d, f], kp⟩)
theorem crash_iff {k : Nat} (hk : k ≤ 17) : (refWord k).1 = [99, 114, 97, 115, 104] ↔ k = 17 := by
  unfold refWord
  by_cases h0 : k = 0
  · subst h0; simp
  · rw [if_neg (by omega)]
    simp only [Int.toNat_natCast]
    obtain ⟨_, _, w10, _⟩ := word_fact (k := k) (by omega) hk
    constructor
    · intro h
      rw [h] at w10
      have : actOfL [99, 114, 97, 115, 104] = 17 := by decide
      omega
    · rintro rfl; rfl
theorem acts_cells {w : World} {R : Nat} {k a b c d e : Int} {p : Option Addr} {n m : Nat} (h : Blk w R #[.int .i64 k, .int .i64 a, .int .i64 b, .int .i64 c, .int .i64 d, .int .i64 e, .slice p n m] 24) :
    w.cell? ⟨R, 0, none⟩ = some (.int .i64 k) ∧ w.cell? ⟨R, 1, none⟩ = some (.int .i64 a) ∧ w.cell? ⟨R, 2, none⟩ = some (.int .i64 b) ∧ w.cell? ⟨R, 3, none⟩ = some (.int .i64 c) ∧ w.cell? ⟨R, 4, none⟩ = some (.int .i64 d) ∧ w.cell? ⟨R, 5, none⟩ = some (.int .i64 e) ∧ w.cell? ⟨R, 6, none⟩ = some (.slice p n m) :=
  ⟨(h.cell 0).trans rfl, (h.cell 1).trans rfl, (h.cell 2).trans rfl, (h.cell 3).trans rfl, (h.cell 4).trans rfl, (h.cell 5).trans rfl, (h.cell 6).trans rfl⟩
theorem nrow_stays {M : Nat → Prop} {w w' : World} {v : Value} {l : List Int} (h : NRow w v l) (b : Stays M w w') (hM : ∀ L o c, v = .slice (some ⟨L, o, none⟩) l.length c → l ≠ [] → ¬ M L) : NRow w' v l := by
  rcases h with h | ⟨h0, L, o, c, h1, h2, h3⟩
  · exact .inl h
  · refine .inr ⟨h0, L, o, c, h1, h2, fun j hj => ?_⟩
    have hc := h3 j hj
    exact (World.cell?_of_block (a := ⟨L, o + j, none⟩) (b.block L (World.block_lt_of_cell? w _ hc) (hM L o c h1 h0))).trans hc
theorem nrow_lt {w : World} {L o n c : Nat} {l : List Int} (h : NRow w (.slice (some ⟨L, o, none⟩) n c) l) (h0 : l ≠ []) : L < w.heap.size := by
  rcases h with ⟨h, _⟩ | ⟨_, L', o', c', h1, h2, h3⟩
  · exact absurd h h0
  · injection h1 with h1 _ _
    injection h1 with h1
    injection h1 with h1 _
    subst h1
    exact World.block_lt_of_cell? w _ (h3 0 (List.length_pos_iff.2 h0))
theorem ofR_any {w : World} {k : Nat} (hk : k ≤ 17) {v : Value} {l : List Int} (hr : NRow w v l) (hl : l.length ≤ 131072) : Calls Tryz.prog 69 #[.int .i64 k, v] w (RetOf w k v l) := by
  obtain ⟨p, cc, rfl⟩ := hr.form
  obtain ⟨w1, hw1⟩ : ∃ w1, w1 = w.alloc (.cells #[.int .i64 0, .int .i64 0, .int .i64 0, .int .i64 0, .int .i64 0, .int .i64 0, .slice none 0 0] 24) := ⟨_, rfl⟩
  have l1 : Below w.heap.size w w1 := by rw [hw1]; exact (Below.refl _ _).alloc (Nat.le_refl _) _
  have bR : Blk w1 w.heap.size #[.int .i64 0, .int .i64 0, .int .i64 0, .int .i64 0, .int .i64 0, .int .i64 0, .slice none 0 0] 24 := by rw [hw1]; exact Blk.new w _ _
  have HW := Lib.hid hw1
  have HWD := Lib.hid (word_any k w1)
  have HCR := Lib.hid (crash_iff hk)
  have HRW := Lib.hid (refWord_le k)
  have HK := Lib.hid hk
  have HL := Lib.hid hr
  obtain ⟨tk, htk⟩ : ∃ tk, tk = takesR k l.length := ⟨_, rfl⟩
  have HTK := Lib.hid htk
  clear hw1 hr htk
  go_enter Tryz.func69, Tryz.ntmps69
  go_wp2_with fail
  rw [← HW.out]
  refine HWD.out.mono ?_
  rintro e w2 ⟨b2, sw, rfl, hsw⟩
  have l2 := l1.trans (b2.mono l1.size)
  have B2 := bR.below b2
  have HS := Lib.hid hsw
  have HL2 := Lib.hid ((HL.out.below l1).below b2)
  have HWZ := Lib.hid (show w1.heap.size = w.heap.size + 1 by rw [HW.out]; simp)
  clear bR hsw
  have size := size24
  by_cases h17 : k = 17
  · have d1 : (sw.toList == [99, 114, 97, 115, 104]) = true := by rw [lit_str', HS.out]; exact decide_eq_true (HCR.out.2 h17)
    have htk : takesR k l.length = decide ((l.length : Int) ≤ 16) := by
      unfold takesR; rw [if_pos h17]
      by_cases h : l.length ≤ 16
      · rw [decide_eq_true h, decide_eq_true (by omega)]
      · rw [decide_eq_false h, decide_eq_false (by omega)]
    have HTK2 := Lib.hid htk
    have H17 := Lib.hid h17
    clear htk h17
    go_wp2_with (refine wpList_unit (o := ⟨none, Op.store 24 _ _, _, _, _, _⟩) rfl rfl (Instr.storeAt 24 _ _) rfl (blk_store (c' := #[.int .i64 k, .int .i64 0, .int .i64 0, .int .i64 0, .int .i64 0, .int .i64 0, .slice p l.length cc]) B2 size24 rfl rfl) ?_)
    have hB := setRow_heap w2 w.heap.size _ #[.int .i64 k, .int .i64 0, .int .i64 0, .int .i64 0, .int .i64 0, .int .i64 0, .slice p l.length cc] 24 B2
    have hS := setRow_stays w2 w.heap.size #[.int .i64 k, .int .i64 0, .int .i64 0, .int .i64 0, .int .i64 0, .int .i64 0, .slice p l.length cc]
    obtain ⟨w4, hw4⟩ : ∃ w4, w4 = w2.setRow w.heap.size #[.int .i64 k, .int .i64 0, .int .i64 0, .int .i64 0, .int .i64 0, .int .i64 0, .slice p l.length cc] := ⟨_, rfl⟩
    rw [← hw4] at hB hS
    rw [← hw4]
    have hl4 := l2.trans (hS.below l2.size (fun j hj e => by omega))
    obtain ⟨y0, y1, y2, y3, y4, y5, y6⟩ := acts_cells hB
    have hnr : NRow w4 (.slice p l.length cc) l := nrow_stays HL2.out hS (fun L o c h h0 => by
      injection h with h _ _
      subst h
      have := nrow_lt HL.out h0
      have hz := HWZ.out
      omega)
    have hb : decide ((l.length : Int) ≤ 16) = takesR k l.length := HTK2.out.symm
    refine ⟨rfl, .tuple #[actV k 0 0 0 0 0 (.slice p l.length cc), .bool (takesR k l.length)], ?_, hl4, k, 0, 0, 0, 0, 0, .slice p l.length cc, l, rfl, hnr, ⟨⟨p, _, cc, rfl⟩, .inr rfl⟩, fun _ => ⟨rfl, by unfold makeActL; rw [if_pos H17.out, H17.out]⟩⟩
    rw [← hb]
    clear hb
    simp [results, Tryz.results69, go_sem, y0, y1, y2, y3, y4, y5, y6]
  have d1 : (sw.toList == [99, 114, 97, 115, 104]) = false := by rw [lit_str', HS.out]; exact decide_eq_false (fun h => h17 (HCR.out.1 h))
  obtain ⟨n, hn⟩ : ∃ n, n = (refWord k).2 := ⟨_, rfl⟩
  rw [← hn]
  have hn5 : n ≤ 5 := by rw [hn]; exact HRW.out.1
  have htk : takesR k l.length = decide (l.length = n) := by unfold takesR; rw [if_neg h17, hn]
  have HTK2 := Lib.hid htk
  have H17 := Lib.hid h17
  clear htk h17 hn HRW HCR
  by_cases hln : l.length = n
  rotate_left
  · have d2 : ((l.length : Int) != (n : Int)) = true := by simp; omega
    have hb : takesR k l.length = false := by rw [HTK2.out]; exact decide_eq_false hln
    have HB := Lib.hid hb
    clear hb hln
    go_wp2_with (refine wpList_unit (o := ⟨none, Op.store 24 _ _, _, _, _, _⟩) rfl rfl (Instr.storeAt 24 _ _) rfl (blk_store (c' := #[.int .i64 0, .int .i64 0, .int .i64 0, .int .i64 0, .int .i64 0, .int .i64 0, .slice none 0 0]) B2 size24 rfl rfl) ?_)
    have hB := setRow_heap w2 w.heap.size _ #[.int .i64 0, .int .i64 0, .int .i64 0, .int .i64 0, .int .i64 0, .int .i64 0, .slice none 0 0] 24 B2
    have hS := setRow_stays w2 w.heap.size #[.int .i64 0, .int .i64 0, .int .i64 0, .int .i64 0, .int .i64 0, .int .i64 0, .slice none 0 0]
    obtain ⟨w4, hw4⟩ : ∃ w4, w4 = w2.setRow w.heap.size #[.int .i64 0, .int .i64 0, .int .i64 0, .int .i64 0, .int .i64 0, .int .i64 0, .slice none 0 0] := ⟨_, rfl⟩
    rw [← hw4] at hB hS
    rw [← hw4]
    have hl4 := l2.trans (hS.below l2.size (fun j hj e => by omega))
    obtain ⟨y0, y1, y2, y3, y4, y5, y6⟩ := acts_cells hB
    refine ⟨rfl, .tuple #[actV 0 0 0 0 0 0 (.slice none 0 0), .bool false], ?_, hl4, 0, 0, 0, 0, 0, 0, .slice none 0 0, [], by rw [HB.out], .inl ⟨rfl, _, _, rfl⟩, ⟨⟨_, _, _, rfl⟩, .inl rfl⟩, fun h => by rw [HB.out] at h; cases h⟩
    simp [results, Tryz.results69, go_sem, y0, y1, y2, y3, y4, y5, y6]
  have d2 : ((l.length : Int) != (n : Int)) = false := by simp [hln]
  have hb : takesR k l.length = true := by rw [HTK2.out]; exact decide_eq_true hln
  have HB := Lib.hid hb
  obtain ⟨a, b, c, d, f, h5⟩ := five (l := (l ++ [0, 0, 0, 0, 0]).take 5) (by simp)
  have H5 := Lib.hid h5
  obtain ⟨i0, hi, hz0, hz1, hz2⟩ := info_parts info3
  clear hb h5
  have hl5 : l.length ≤ 5 := by omega
  have HLN := Lib.hid hln
  clear hln hn5
  obtain ⟨w3, hw3⟩ : ∃ w3, w3 = w2.alloc (.cells #[] 3) := ⟨_, rfl⟩
  have b3 : Blk w3 w2.heap.size #[] 3 := by rw [hw3]; exact Blk.new w2 _ _
  have l23 : Below w2.heap.size w2 w3 := by rw [hw3]; exact (Below.refl _ _).alloc (Nat.le_refl _) _
  have o3 : w3.ownsRow w2.heap.size 3 1 (.slice (some ⟨w2.heap.size, 0, none⟩) 0 0) 0 [] :=
    ⟨rfl, .inr ⟨w2.heap.size, 0, #[], rfl, Nat.le_refl _, b3, Nat.le_refl _, Nat.zero_le _, rfl, rfl⟩⟩
  have HW3 := Lib.hid hw3
  have O3 := Lib.hid o3
  have HL3 := Lib.hid (HL2.out.below l23)
  have hsz2 : w2.heap.size ≤ w3.heap.size := l23.size
  have hnew5 : ∀ W : World, ∀ j u, ([.int .i64 0, .int .i64 0, .int .i64 0, .int .i64 0, .int .i64 0] : List Value)[j]? = some u → (W.alloc (.cells #[.int .i64 0, .int .i64 0, .int .i64 0, .int .i64 0, .int .i64 0] 3)).cell? ((⟨W.heap.size, 0, none⟩ : Addr).add j) = some u := fun W => World.news_of_block (heap_alloc_new W _)
  have HN5 := Lib.hid hnew5
  clear hw3 o3 b3 hnew5
  by_cases h0 : l = []
  · subst h0
    obtain rfl : n = 0 := HLN.out.symm
    clear d2
    have hz3 : w3.heap.size = w2.heap.size + 1 := by rw [HW3.out]; simp
    have hnz : ∀ j u, ([.int .i64 0, .int .i64 0, .int .i64 0, .int .i64 0, .int .i64 0] : List Value)[j]? = some u → (w3.alloc (.cells #[.int .i64 0, .int .i64 0, .int .i64 0, .int .i64 0, .int .i64 0] 3)).cell? ((⟨w2.heap.size + 1, 0, none⟩ : Addr).add j) = some u := by rw [← hz3]; exact HN5.out w3
    have HNZ := Lib.hid hnz
    clear hnz hz3
    go_upto_region 6 with fail
    go_wp2_with (first | (at_builtin; refine wpList_append_zero (o := ⟨some 28, _, _, _, _, _⟩) rfl (.tmp 26) (.tmp 27) 22 rfl 3 i0 Tryz.underlying22 hi _ _ _ rfl (Nat.le_refl _) _ _ rfl ?_) | (at_builtin; rw [← HW3.out]; refine wpList_append_lies (o := ⟨some 30, _, _, _, _, _⟩) _ rfl (.tmp 28) (.tmp 29) 22 rfl w2.heap.size 3 i0 (.int .i64 0) 1 8 Tryz.underlying22 hi hz0 hz1 hz2 rfl (by decide) _ _ _ rfl (O3.out.alloc _) ⟨w2.heap.size + 1, 0, none⟩ 5 5 [.int .i64 0, .int .i64 0, .int .i64 0, .int .i64 0, .int .i64 0] rfl rfl HNZ.out (by intro u hu; simp at hu; subst hu; rfl) (by decide) (by unfold maxLen; omega) (by omega) (by simp; omega) _ rfl ?_; intro g5 cap5 w5 hown5 hgr5 hat5 hg5) | fail)
    have l25 : Below w2.heap.size w2 w5 := l23.trans (((Below.refl _ w3).alloc (Nat.le_refl _) _ |>.mono hsz2).grown hgr5 (by simp; omega) (fun j hj => (O3.out.lt j hj).1))
    have B5 := B2.below l25
    have hrow : w5.ownsRow w2.heap.size 3 1 (.slice (some ⟨g5, 0, none⟩) (([] : List Int).length + 5) cap5) (([] : List Int).length + 5) ((([] : List Int) ++ [0, 0, 0, 0, 0]).map fun n => Value.int .i64 n) := by simpa using hown5
    have hcells : ∀ i x, ((([] : List Int) ++ [0, 0, 0, 0, 0]).take 5)[i]? = some x → w5.cell? ⟨g5, i, none⟩ = some (.int .i64 x) := fun i x hx => by
      obtain ⟨q1, q2⟩ := List.getElem?_eq_some_iff.1 hx
      have q3 : i < 5 := by rw [List.length_take] at q1; omega
      rw [row_get hrow (by omega) i (by simp; omega)]
      simp only [List.getElem_map]
      rw [← q2, List.getElem_take]
    rw [H5.out] at hcells
    have e0 := hcells 0 a rfl
    have e1 := hcells 1 b rfl
    have e2 := hcells 2 c rfl
    have e3 := hcells 3 d rfl
    have e4 := hcells 4 f rfl
    have l5 := l2.trans (l25.mono l2.size)
    obtain ⟨g0, g1, g2, g3, g4, g6, g7⟩ := acts_cells B5
    have z0 := B5.frozen 0
    have z1 := B5.frozen 1
    have z2 := B5.frozen 2
    have z3 := B5.frozen 3
    have z4 := B5.frozen 4
    have z5 := B5.frozen 5
    have z6 := B5.frozen 6
    clear hcells hrow hown5 hgr5 hat5 B2 l25
    go_wp2_with fail
    go_region
    go_wp2_with fail
    have hB6 : Blk ((((((((w5.setCell ⟨w.heap.size, 0, none⟩ (.int .i64 k)).setCell ⟨w.heap.size, 1, none⟩ (.int .i64 a)).setCell ⟨w.heap.size, 2, none⟩ (.int .i64 b)).setCell ⟨w.heap.size, 3, none⟩ (.int .i64 c)).setCell ⟨w.heap.size, 4, none⟩ (.int .i64 d)).setCell ⟨w.heap.size, 5, none⟩ (.int .i64 f)).setCell ⟨w.heap.size, 6, none⟩ (.slice none 0 0)).drew) w.heap.size #[.int .i64 k, .int .i64 a, .int .i64 b, .int .i64 c, .int .i64 d, .int .i64 f, .slice none 0 0] 24 := (((((((B5.set 0 (.int .i64 k)).set 1 (.int .i64 a)).set 2 (.int .i64 b)).set 3 (.int .i64 c)).set 4 (.int .i64 d)).set 5 (.int .i64 f)).set 6 (.slice none 0 0)).drewN 1
    have hS6 : Stays (fun j => j = w.heap.size) w5 ((((((((w5.setCell ⟨w.heap.size, 0, none⟩ (.int .i64 k)).setCell ⟨w.heap.size, 1, none⟩ (.int .i64 a)).setCell ⟨w.heap.size, 2, none⟩ (.int .i64 b)).setCell ⟨w.heap.size, 3, none⟩ (.int .i64 c)).setCell ⟨w.heap.size, 4, none⟩ (.int .i64 d)).setCell ⟨w.heap.size, 5, none⟩ (.int .i64 f)).setCell ⟨w.heap.size, 6, none⟩ (.slice none 0 0)).drew) := (((((((Stays.cell (.refl _ w5) 0 (.int .i64 k)).cell 1 (.int .i64 a)).cell 2 (.int .i64 b)).cell 3 (.int .i64 c)).cell 4 (.int .i64 d)).cell 5 (.int .i64 f)).cell 6 (.slice none 0 0)).drewN 1
    obtain ⟨w6, hw6⟩ : ∃ w6, w6 = ((((((((w5.setCell ⟨w.heap.size, 0, none⟩ (.int .i64 k)).setCell ⟨w.heap.size, 1, none⟩ (.int .i64 a)).setCell ⟨w.heap.size, 2, none⟩ (.int .i64 b)).setCell ⟨w.heap.size, 3, none⟩ (.int .i64 c)).setCell ⟨w.heap.size, 4, none⟩ (.int .i64 d)).setCell ⟨w.heap.size, 5, none⟩ (.int .i64 f)).setCell ⟨w.heap.size, 6, none⟩ (.slice none 0 0)).drew) := ⟨_, rfl⟩
    rw [← hw6] at hB6 hS6
    rw [← hw6]
    clear hw6
    have hl6 := l5.trans (hS6.below l5.size (fun j hj e => by omega))
    obtain ⟨y0, y1, y2, y3, y4, y5, y6⟩ := acts_cells hB6
    refine ⟨rfl, .tuple #[actV k a b c d f (.slice none 0 0), .bool true], ?_, hl6, k, a, b, c, d, f, .slice none 0 0, [], by rw [HB.out], .inl ⟨rfl, _, _, rfl⟩, ⟨⟨_, _, _, rfl⟩, .inl rfl⟩, fun _ => ⟨rfl, by unfold makeActL; rw [if_neg H17.out, H5.out]⟩⟩
    simp [results, Tryz.results69, go_sem, y0, y1, y2, y3, y4, y5, y6]
  · have hpos := List.length_pos_iff.2 h0
    obtain ⟨L, o, rfl, _⟩ := nrow_get HL3.out hpos
    have hcap : l.length ≤ cc := (nrow_cap HL3.out).resolve_left h0
    have hnews : ∀ j u, (l.map fun n => Value.int .i64 n)[j]? = some u → w3.cell? ((⟨L, o, none⟩ : Addr).add j) = some u := fun j u hj => by
      rw [List.getElem?_map] at hj
      cases hm : l[j]? with
      | none => rw [hm] at hj; cases hj
      | some y =>
        rw [hm] at hj
        injection hj with hj
        subst hj
        obtain ⟨q1, q2⟩ := List.getElem?_eq_some_iff.1 hm
        obtain ⟨L', o', e', hc⟩ := nrow_get HL3.out q1
        cases e'
        rw [Addr.add_lit, hc, q2]
    have HNW := Lib.hid hnews
    clear hnews
    go_upto_region 6 with fail
    go_wp2_with (first | (at_builtin; rw [← HW3.out]; refine wpList_append_lies (o := ⟨some 28, _, _, _, _, _⟩) _ rfl (.tmp 26) (.tmp 27) 22 rfl w2.heap.size 3 i0 (.int .i64 0) 1 8 Tryz.underlying22 hi hz0 hz1 hz2 rfl (by decide) _ _ _ rfl O3.out ⟨L, o, none⟩ l.length cc (l.map fun n => Value.int .i64 n) rfl (by simp) HNW.out (by intro u hu; obtain ⟨y, _, rfl⟩ := List.mem_map.1 hu; rfl) hpos (by unfold maxLen; omega) (by omega) hsz2 _ rfl ?_; intro g cap2 w4 hown4 hgr hat hg2; have l34 : Below w2.heap.size w3 w4 := ((Below.refl _ w3).mono hsz2).grown hgr hsz2 (fun j hj => (O3.out.lt j hj).1); have hsz4 := l34.size; simp only [Nat.zero_add, List.nil_append] at hown4) | (at_builtin; refine wpList_append_lies (o := ⟨some 30, _, _, _, _, _⟩) _ rfl (.tmp 28) (.tmp 29) 22 rfl w2.heap.size 3 i0 (.int .i64 0) 1 8 Tryz.underlying22 hi hz0 hz1 hz2 rfl (by decide) _ _ _ rfl (hown4.alloc _) ⟨w4.heap.size, 0, none⟩ 5 5 [.int .i64 0, .int .i64 0, .int .i64 0, .int .i64 0, .int .i64 0] rfl rfl (HN5.out _) (by intro u hu; simp at hu; subst hu; rfl) (by decide) (by unfold maxLen; omega) (by omega) (by simp; omega) _ rfl ?_; intro g5 cap5 w5 hown5 hgr5 hat5 hg5) | fail)
    have l25 : Below w2.heap.size w2 w5 := (l23.trans l34).trans (((Below.refl _ w4).alloc (Nat.le_refl _) _ |>.mono (by omega)).grown hgr5 (by simp; omega) (fun j hj => (hown4.lt j hj).1))
    have B5 := B2.below l25
    have hrow : w5.ownsRow w2.heap.size 3 1 (.slice (some ⟨g5, 0, none⟩) (l.length + 5) cap5) (l.length + 5) ((l ++ [0, 0, 0, 0, 0]).map fun n => Value.int .i64 n) := by simpa using hown5
    have hcells : ∀ i x, ((l ++ [0, 0, 0, 0, 0]).take 5)[i]? = some x → w5.cell? ⟨g5, i, none⟩ = some (.int .i64 x) := fun i x hx => by
      obtain ⟨q1, q2⟩ := List.getElem?_eq_some_iff.1 hx
      have q3 : i < 5 := by rw [List.length_take] at q1; omega
      rw [row_get hrow (by omega) i (by simp; omega)]
      simp only [List.getElem_map]
      rw [← q2, List.getElem_take]
    rw [H5.out] at hcells
    have e0 := hcells 0 a rfl
    have e1 := hcells 1 b rfl
    have e2 := hcells 2 c rfl
    have e3 := hcells 3 d rfl
    have e4 := hcells 4 f rfl
    have l5 := l2.trans (l25.mono l2.size)
    obtain ⟨g0, g1, g2, g3, g4, g6, g7⟩ := acts_cells B5
    have z0 := B5.frozen 0
    have z1 := B5.frozen 1
    have z2 := B5.frozen 2
    have z3 := B5.frozen 3
    have z4 := B5.frozen 4
    have z5 := B5.frozen 5
    have z6 := B5.frozen 6
    clear hcells hrow hown5 hgr5 hat5 B2 l25
    go_wp2_with fail
    go_region
    go_wp2_with fail
    have hB6 : Blk ((((((((w5.setCell ⟨w.heap.size, 0, none⟩ (.int .i64 k)).setCell ⟨w.heap.size, 1, none⟩ (.int .i64 a)).setCell ⟨w.heap.size, 2, none⟩ (.int .i64 b)).setCell ⟨w.heap.size, 3, none⟩ (.int .i64 c)).setCell ⟨w.heap.size, 4, none⟩ (.int .i64 d)).setCell ⟨w.heap.size, 5, none⟩ (.int .i64 f)).setCell ⟨w.heap.size, 6, none⟩ (.slice none 0 0)).drew) w.heap.size #[.int .i64 k, .int .i64 a, .int .i64 b, .int .i64 c, .int .i64 d, .int .i64 f, .slice none 0 0] 24 := (((((((B5.set 0 (.int .i64 k)).set 1 (.int .i64 a)).set 2 (.int .i64 b)).set 3 (.int .i64 c)).set 4 (.int .i64 d)).set 5 (.int .i64 f)).set 6 (.slice none 0 0)).drewN 1
    have hS6 : Stays (fun j => j = w.heap.size) w5 ((((((((w5.setCell ⟨w.heap.size, 0, none⟩ (.int .i64 k)).setCell ⟨w.heap.size, 1, none⟩ (.int .i64 a)).setCell ⟨w.heap.size, 2, none⟩ (.int .i64 b)).setCell ⟨w.heap.size, 3, none⟩ (.int .i64 c)).setCell ⟨w.heap.size, 4, none⟩ (.int .i64 d)).setCell ⟨w.heap.size, 5, none⟩ (.int .i64 f)).setCell ⟨w.heap.size, 6, none⟩ (.slice none 0 0)).drew) := (((((((Stays.cell (.refl _ w5) 0 (.int .i64 k)).cell 1 (.int .i64 a)).cell 2 (.int .i64 b)).cell 3 (.int .i64 c)).cell 4 (.int .i64 d)).cell 5 (.int .i64 f)).cell 6 (.slice none 0 0)).drewN 1
    obtain ⟨w6, hw6⟩ : ∃ w6, w6 = ((((((((w5.setCell ⟨w.heap.size, 0, none⟩ (.int .i64 k)).setCell ⟨w.heap.size, 1, none⟩ (.int .i64 a)).setCell ⟨w.heap.size, 2, none⟩ (.int .i64 b)).setCell ⟨w.heap.size, 3, none⟩ (.int .i64 c)).setCell ⟨w.heap.size, 4, none⟩ (.int .i64 d)).setCell ⟨w.heap.size, 5, none⟩ (.int .i64 f)).setCell ⟨w.heap.size, 6, none⟩ (.slice none 0 0)).drew) := ⟨_, rfl⟩
    rw [← hw6] at hB6 hS6
    rw [← hw6]
    clear hw6
    have hl6 := l5.trans (hS6.below l5.size (fun j hj e => by omega))
    obtain ⟨y0, y1, y2, y3, y4, y5, y6⟩ := acts_cells hB6
    refine ⟨rfl, .tuple #[actV k a b c d f (.slice none 0 0), .bool true], ?_, hl6, k, a, b, c, d, f, .slice none 0 0, [], by rw [HB.out], .inl ⟨rfl, _, _, rfl⟩, ⟨⟨_, _, _, rfl⟩, .inl rfl⟩, fun _ => ⟨rfl, by unfold makeActL; rw [if_neg H17.out, H5.out]⟩⟩
    simp [results, Tryz.results69, go_sem, y0, y1, y2, y3, y4, y5, y6]
end Go.Proofs.YtddnmocoaahlfaaGreatDoor
namespace Go.Proofs.YtddnmocoaahlfaaGreatDoor
open Go.RowKit
theorem elem27 : Tryz.prog.underlying 27 = some (.slice (Tryz.prog.elem 27)) := by kernel_rfl
theorem elemz27 (w : World) : (sizeOf (Tryz.prog.elem 27)).run Tryz.prog w = .ok 1 w := by kernel_rfl
theorem tail27 (g o m c : Nat) (hc : m + 1 ≤ c) : ∃ A : Addr, (m ≠ 0 → A = ⟨g, o + 1, none⟩) ∧ ∀ w, (Instr.sliceAt 27 (.slice (some ⟨g, o, none⟩) (m + 1) c) (some (.int .i64 1)) none none).run Tryz.prog w = .ok (.slice (some A) m (c - 1)) w := by
  by_cases h1 : c = 1
  · subst h1
    refine ⟨⟨g, o, none⟩, fun h => by omega, fun w => ?_⟩
    rw [run_sliceAt_slice w 27 _ _ _ _ elem27, run_slice_l w 27 _ _ _ elem27 _ _ (by decide) (by omega), elemz27]
    simp [Result.andThen, sliced]
  · refine ⟨⟨g, o + 1, none⟩, fun _ => rfl, fun w => ?_⟩
    rw [run_sliceAt_slice w 27 _ _ _ _ elem27, run_slice_l w 27 _ _ _ elem27 _ _ (by decide) (by omega), elemz27]
    have : (1 : Int).toNat = 1 := rfl
    simp [Result.andThen, sliced, h1, Addr.add]
theorem srw_tail {w : World} {v : Value} {s : ByteArray} {st : List ByteArray} (h : SRw w v (s :: st)) : ∃ g o c, v = .slice (some ⟨g, o, none⟩) (st.length + 1) c ∧ st.length + 1 ≤ c ∧ w.cell? ⟨g, o, none⟩ = some (.string s) ∧
    ∃ A : Addr, (∀ w, (Instr.sliceAt 27 (.slice (some ⟨g, o, none⟩) (st.length + 1) c) (some (.int .i64 1)) none none).run Tryz.prog w = .ok (.slice (some A) st.length (c - 1)) w) ∧ SRw w (.slice (some A) st.length (c - 1)) st := by
  rcases h with ⟨h0, _⟩ | ⟨_, g, o, c, rfl, h2, h3⟩
  · cases h0
  · simp only [List.length_cons] at h2 ⊢
    obtain ⟨A, hA, hs⟩ := tail27 g o st.length c h2
    refine ⟨g, o, c, rfl, h2, h3 0 (by simp), A, hs, ?_⟩
    by_cases hst : st = []
    · subst hst; exact .inl ⟨rfl, _, _, rfl⟩
    · refine .inr ⟨hst, g, o + 1, c - 1, by rw [hA (fun e => hst (List.length_eq_zero_iff.1 e))], by omega, fun j hj => ?_⟩
      have := h3 (j + 1) (by simp; omega)
      rw [show o + 1 + j = o + (j + 1) by omega, this]
      rfl
end Go.Proofs.YtddnmocoaahlfaaGreatDoor
namespace Go.Proofs.YtddnmocoaahlfaaGreatDoor
open Go.RowKit Go.Shelf
end Go.Proofs.YtddnmocoaahlfaaGreatDoor
namespace Go.Proofs.YtddnmocoaahlfaaGreatDoor
open Go.RowKit Go.Shelf
end Go.Proofs.YtddnmocoaahlfaaGreatDoor
namespace Go.Proofs.YtddnmocoaahlfaaGreatDoor
open Go.RowKit Go.Shelf
end Go.Proofs.YtddnmocoaahlfaaGreatDoor
