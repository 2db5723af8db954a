/-
  The reference's Word, Valid and Text. Conditions: the numbers are ints; the row of numbers lies in memory.
-/
import Derived.Test.YtddnmocoaahlfaaGreatDoorLine2
import Derived.Test.YtddnmocoaahlfaaGreatDoorNum
import Derived.Test.YtddnmocoaahlfaaGreatDoorSame
import Derived.Deep.DeepCutAuto
import Derived.Test.YtddnmocoaahlfaaGreatDoorArr
set_option linter.unusedVariables false
set_option linter.unusedSimpArgs false
namespace Go.Proofs.YtddnmocoaahlfaaGreatDoor
open Go.RowKit Go.Shelf

/-- The word of a kind, and how many fields it has. -/
def refWord (k : Int) : List UInt8 × Nat := if k < 1 ∨ k > 17 then ([], 0) else (wordOf k.toNat, fieldsOf k.toNat)
theorem ws_get : ∀ i, i < 18 → aWords[i]? = some (.string ⟨(if i = 0 then [] else wordOf i).toArray⟩) := by
  intro i hi
  match i, hi with
  | 0, _ => rfl
  | 1, _ => rfl
  | 2, _ => rfl
  | 3, _ => rfl
  | 4, _ => rfl
  | 5, _ => rfl
  | 6, _ => rfl
  | 7, _ => rfl
  | 8, _ => rfl
  | 9, _ => rfl
  | 10, _ => rfl
  | 11, _ => rfl
  | 12, _ => rfl
  | 13, _ => rfl
  | 14, _ => rfl
  | 15, _ => rfl
  | 16, _ => rfl
  | 17, _ => rfl
  | n + 18, h => exact absurd h (by omega)
theorem fs_get : ∀ i, i < 18 → aFields[i]? = some (.int .i64 ((if i = 0 then 0 else fieldsOf i : Nat) : Int)) := by
  intro i hi
  match i, hi with
  | 0, _ => rfl
  | 1, _ => rfl
  | 2, _ => rfl
  | 3, _ => rfl
  | 4, _ => rfl
  | 5, _ => rfl
  | 6, _ => rfl
  | 7, _ => rfl
  | 8, _ => rfl
  | 9, _ => rfl
  | 10, _ => rfl
  | 11, _ => rfl
  | 12, _ => rfl
  | 13, _ => rfl
  | 14, _ => rfl
  | 15, _ => rfl
  | 16, _ => rfl
  | 17, _ => rfl
  | n + 18, h => exact absurd h (by omega)
set_option maxRecDepth 100000 in
set_option maxHeartbeats 4000000 in
theorem word_any (k : Int) (w : World) : Calls Tryz.prog 56 #[.int .i64 k] w (fun e w' => Below w.heap.size w w' ∧ ∃ s : ByteArray, e = .returned (.tuple #[.string s, .int .i64 (refWord k).2]) ∧ txt s = (refWord k).1) := by
  obtain ⟨w2, hw2⟩ : ∃ w2, w2 = (w.alloc (.cells aWords 165)).alloc (.cells aFields 166) := ⟨_, rfl⟩
  have l2 : Below w.heap.size w w2 := by rw [hw2]; exact ((Below.refl _ _).alloc (Nat.le_refl _) _).alloc (by simp) _
  have L2 := Lib.hid l2
  have z1 : (w.alloc (.cells aWords 165)).heap.size = w.heap.size + 1 := by simp
  have c1 : ∀ n, n < 18 → n ≠ 0 → w2.cell? ⟨w.heap.size, n, none⟩ = some (.string ⟨(wordOf n).toArray⟩) := fun n hn1 hn0 => by
    rw [hw2, ((Blk.new w _ _).alloc _).cell n, ws_get n hn1, if_neg hn0]
  have c2 : ∀ n, n < 18 → n ≠ 0 → w2.cell? ⟨w.heap.size + 1, n, none⟩ = some (.int .i64 (fieldsOf n)) := fun n hn1 hn0 => by
    have h := (Blk.new (w.alloc (.cells aWords 165)) aFields 166).cell n
    rw [z1] at h
    rw [hw2, h, fs_get n hn1, if_neg hn0]
  have C1 := Lib.hid c1
  have C2 := Lib.hid c2
  have HW := Lib.hid hw2
  obtain ⟨wd, hwd⟩ : ∃ wd, wd = (refWord k).1 := ⟨_, rfl⟩
  obtain ⟨fs, hfs⟩ : ∃ fs, fs = (refWord k).2 := ⟨_, rfl⟩
  rw [← hwd, ← hfs]
  have HWD := Lib.hid hwd
  have HFS := Lib.hid hfs
  clear l2 hw2 z1 c1 c2 hwd hfs
  go_enter Tryz.func56, Tryz.ntmps56
  go_upto_region 3 with (first | (refine wpList_val (o := ⟨some 6, _, _, _, _, _⟩) rfl (Instr.build 165 _) rfl _ (aWords_build _) ?_) | (refine wpList_val (o := ⟨some 4, _, _, _, _, _⟩) rfl (Instr.alloc 165 true (.tuple #[])) rfl _ (aWords_alloc _) ?_) | (refine wpList_unit (o := ⟨none, Op.store 165 _ _, _, _, _, _⟩) rfl rfl (Instr.storeAt 165 _ _) rfl (aWords_store _) ?_) | (refine wpList_val (o := ⟨some 7, _, _, _, _, _⟩) rfl (Instr.build 166 _) rfl _ (aFields_build _) ?_) | (refine wpList_val (o := ⟨some 5, _, _, _, _, _⟩) rfl (Instr.alloc 166 true (.tuple #[])) rfl _ (aFields_alloc _) ?_) | (refine wpList_unit (o := ⟨none, Op.store 166 _ _, _, _, _, _⟩) rfl rfl (Instr.storeAt 166 _ _) rfl (aFields_store _) ?_))
  rw [← HW.out]
  clear HW
  by_cases h1 : k < 1
  · have hr : refWord k = ([], 0) := by unfold refWord; rw [if_pos (.inl h1)]
    rw [hr] at HWD HFS
    have d1 : decide (k < 1) = true := decide_eq_true h1
    have e2 : fs = 0 := HFS.out
    have e3 : [] = wd := HWD.out.symm
    subst e2
    clear hr h1
    go_wp2_with fail
    go_ret2
    exact ⟨L2.out, _, rfl, by rw [← e3]⟩
  have d1 : decide (k < 1) = false := decide_eq_false h1
  by_cases h2 : k > 17
  · have hr : refWord k = ([], 0) := by unfold refWord; rw [if_pos (.inr h2)]
    rw [hr] at HWD HFS
    have d2 : decide (17 < k) = true := decide_eq_true h2
    have e2 : fs = 0 := HFS.out
    have e3 : [] = wd := HWD.out.symm
    subst e2
    clear hr h1 h2
    go_wp2_with fail
    go_ret2
    exact ⟨L2.out, _, rfl, by rw [← e3]⟩
  have d2 : decide (17 < k) = false := decide_eq_false h2
  obtain ⟨n, rfl⟩ : ∃ n : Nat, k = n := ⟨k.toNat, by omega⟩
  have hr : refWord n = (wordOf n, fieldsOf n) := by unfold refWord; rw [if_neg (by omega)]; rfl
  rw [hr] at HWD HFS
  have hn0 : n ≠ 0 := by omega
  have hn1 : n < 18 := by omega
  have c1 := C1.out n hn1 hn0
  have c2 := C2.out n hn1 hn0
  have hf : fs = fieldsOf n := HFS.out
  have hw : wd = wordOf n := HWD.out
  rw [← hf] at c2
  rw [← hw] at c1
  clear hr hn0 C1 C2 HWD HFS hf hw
  go_wp2_with fail
  go_quiet (fail)
  go_wp2_with fail
  go_ret2
  exact ⟨L2.out.trans ((drewN_below w2 _).mono L2.out.size), _, rfl, rfl⟩

theorem refWord_le (k : Int) : (refWord k).2 ≤ 5 ∧ (refWord k).1.length ≤ 64 := by
  unfold refWord
  split
  · exact ⟨Nat.zero_le _, Nat.zero_le _⟩
  · rename_i h
    obtain ⟨j, hj, e⟩ : ∃ j, j < 17 ∧ k.toNat = j + 1 := ⟨k.toNat - 1, by omega, by omega⟩
    rw [e]
    simp only
    rw [word_get hj, fields_get hj]
    exact ⟨acts_le j hj, word_len j hj⟩
/-- When an act is valid, by its word. -/
theorem text_valid (k : Int) {f keep : List Int} (hf : f.length = 5) : ((textT k f keep).2 = 0) ↔ ((f.drop (refWord k).2).all (· = 0) = true ∧ (refWord k).1 ≠ [] ∧ (keep.length = 0 ∨ ((refWord k).1 = [99, 114, 97, 115, 104] ∧ keep.length ≤ 16))) := by
  unfold textT refWord
  by_cases hk : k < 1 ∨ k > 17
  · rw [if_pos hk, if_pos hk]; simp
  · rw [if_neg hk, if_neg hk]
    simp only
    obtain ⟨⟨_, _, w3, _⟩, _, w10, _⟩ := word_fact (k := k.toNat) (by omega) (by omega)
    have hcr : wordOf k.toNat = [99, 114, 97, 115, 104] ↔ k = 17 := by
      constructor
      · intro h
        rw [h] at w10
        have : actOfL [99, 114, 97, 115, 104] = 17 := by decide
        omega
      · rintro rfl; rfl
    by_cases hz : (f.drop (fieldsOf k.toNat)).all (· = 0) = true
    · rw [if_pos hz]
      by_cases h17 : k = 17
      · rw [if_pos h17]
        by_cases hl : keep.length ≤ 16
        · rw [if_pos hl]; simp only [true_iff]; exact ⟨hz, w3, .inr ⟨hcr.2 h17, hl⟩⟩
        · rw [if_neg hl]
          constructor
          · intro h; cases h
          · rintro ⟨_, _, h | ⟨_, h⟩⟩ <;> omega
      · rw [if_neg h17]
        by_cases hl : keep.length = 0
        · rw [if_pos hl]; simp only [true_iff]; exact ⟨hz, w3, .inl hl⟩
        · rw [if_neg hl]
          constructor
          · intro h; cases h
          · rintro ⟨_, _, h | ⟨h, _⟩⟩
            · exact absurd h hl
            · exact absurd (hcr.1 h) h17
    · rw [if_neg hz]
      constructor
      · intro h; cases h
      · intro h; exact absurd h.1 hz
theorem text_bad {k : Int} {f keep : List Int} (h : (textT k f keep).2 ≠ 0) : textT k f keep = ([], 2) := by
  unfold textT at *
  split
  · rfl
  · rename_i h1
    rw [if_neg h1] at h
    split
    · rename_i h2
      rw [if_pos h2] at h
      split
      · rename_i h3
        rw [if_pos h3] at h
        split
        · rename_i h4; rw [if_pos h4] at h; exact absurd rfl h
        · rfl
      · rename_i h3
        rw [if_neg h3] at h
        split
        · rename_i h4; rw [if_pos h4] at h; exact absurd rfl h
        · rfl
    · rfl
theorem text_good {k : Int} {f keep : List Int} (hf : f.length = 5) (h : (textT k f keep).2 = 0) : textT k f keep = (lineT (refWord k).1 (f.take (refWord k).2 ++ keep), 0) ∧ keep.length ≤ 16 := by
  unfold textT at *
  unfold refWord
  split at h
  · cases h
  rename_i hk
  rw [if_neg hk, if_neg hk]
  split at h
  · rename_i hz
    rw [if_pos hz]
    split at h
    · rename_i h17
      rw [if_pos h17]
      split at h
      · rename_i hl
        rw [if_pos hl]
        subst h17
        exact ⟨rfl, hl⟩
      · cases h
    · rename_i h17
      rw [if_neg h17]
      split at h
      · rename_i hl
        rw [if_pos hl, List.length_eq_zero_iff.1 hl, List.append_nil]
        exact ⟨rfl, by simp⟩
      · cases h
  · cases h
set_option maxRecDepth 100000 in
set_option maxHeartbeats 8000000 in
theorem valid_any {w : World} {k a b c d e : Int} {kv : Value} {kp : List Int} (hkv : NRow w kv kp) (hm : kp.length ≤ maxLen) : Calls Tryz.prog 55 #[actV k a b c d e kv] w (fun ex w' => Below w.heap.size w w' ∧ ex = .returned (.bool (decide ((textT k [a, b, c, d, e] kp).2 = 0)))) := by
  obtain ⟨p1, cc, rfl⟩ := hkv.form
  have hm' : kp.length ≤ 9223372036854775807 := by unfold maxLen at hm; omega
  obtain ⟨w1, hw1⟩ : ∃ w1, w1 = w.alloc (.cells #[.int .i64 k, .int .i64 a, .int .i64 b, .int .i64 c, .int .i64 d, .int .i64 e, .slice p1 kp.length cc] 24) := ⟨_, rfl⟩
  have l1 : Below w.heap.size w w1 := by rw [hw1]; exact (Below.refl _ _).alloc (Nat.le_refl _) _
  have bR : Blk w1 w.heap.size #[.int .i64 k, .int .i64 a, .int .i64 b, .int .i64 c, .int .i64 d, .int .i64 e, .slice p1 kp.length cc] 24 := by rw [hw1]; exact Blk.new w _ _
  obtain ⟨f, hf⟩ : ∃ f : List Int, f = [a, b, c, d, e] := ⟨_, rfl⟩
  have hfl : f.length = 5 := by rw [hf]; rfl
  have hcf : ∀ i (h : i < f.length), (#[.int .i64 a, .int .i64 b, .int .i64 c, .int .i64 d, .int .i64 e] : Array Value)[i]? = some (.int .i64 f[i]) := fun i h => by
    have h5 : i < 5 := by omega
    subst hf
    match i, h5 with
    | 0, _ => rfl
    | 1, _ => rfl
    | 2, _ => rfl
    | 3, _ => rfl
    | 4, _ => rfl
  have htv := text_valid k (keep := kp) hfl
  rw [← hf]
  have HW := Lib.hid hw1
  have HWD := Lib.hid (word_any k w1)
  have hn5 := (refWord_le k).1
  generalize hwd : (refWord k).1 = wd at *
  generalize hnn : (refWord k).2 = n at *
  have HTV := Lib.hid htv
  have HCF := Lib.hid hcf
  have HFL := Lib.hid hfl
  obtain ⟨r, hr⟩ : ∃ r, r = decide ((textT k f kp).2 = 0) := ⟨_, rfl⟩
  rw [← hr]
  have HR := Lib.hid hr
  clear hkv hw1 htv hcf hwd hnn hf hr
  go_enter Tryz.func55, Tryz.ntmps55
  go_wp2_with fail
  rw [← HW.out]
  refine HWD.out.mono ?_
  rintro ex w2 ⟨b2, sw, rfl, hsw⟩
  have l2 := l1.trans (b2.mono l1.size)
  have HB2 := Lib.hid (bR.below b2)
  have s0 : w2.cell? ⟨w.heap.size, 0, none⟩ = some (.int .i64 k) := (HB2.out.cell 0).trans rfl
  have s1 : w2.cell? ⟨w.heap.size, 1, none⟩ = some (.int .i64 a) := (HB2.out.cell 1).trans rfl
  have s2 : w2.cell? ⟨w.heap.size, 2, none⟩ = some (.int .i64 b) := (HB2.out.cell 2).trans rfl
  have s3 : w2.cell? ⟨w.heap.size, 3, none⟩ = some (.int .i64 c) := (HB2.out.cell 3).trans rfl
  have s4 : w2.cell? ⟨w.heap.size, 4, none⟩ = some (.int .i64 d) := (HB2.out.cell 4).trans rfl
  have s5 : w2.cell? ⟨w.heap.size, 5, none⟩ = some (.int .i64 e) := (HB2.out.cell 5).trans rfl
  have s6 : w2.cell? ⟨w.heap.size, 6, none⟩ = some (.slice p1 kp.length cc) := (HB2.out.cell 6).trans rfl
  have HFD := Lib.hid (fields_any (w := w2) (k := k) (a := a) (b := b) (c := c) (d := d) (e := e) ⟨p1, kp.length, cc, rfl⟩)
  have HS := Lib.hid hsw
  clear hsw bR HWD HW
  go_wp2_with fail
  refine HFD.out.mono ?_
  rintro ex w3 ⟨rfl, b3⟩
  clear s0 s1 s2 s3 s4 s5
  have l3 := l2.trans (b3.mono l2.size)
  obtain ⟨w4, hw4⟩ : ∃ w4, w4 = w3.alloc (.cells #[.int .i64 a, .int .i64 b, .int .i64 c, .int .i64 d, .int .i64 e] 90) := ⟨_, rfl⟩
  have b4 : Blk w4 w3.heap.size #[.int .i64 a, .int .i64 b, .int .i64 c, .int .i64 d, .int .i64 e] 90 := by rw [hw4]; exact Blk.new w3 _ _
  have l34 : Below w3.heap.size w3 w4 := by rw [hw4]; exact (Below.refl _ _).alloc (Nat.le_refl _) _
  have c6 : w4.cell? ⟨w.heap.size, 6, none⟩ = some (.slice p1 kp.length cc) := ((Blk.below (Blk.below HB2.out b3) l34).cell 6).trans rfl
  have l4 := l3.trans (l34.mono l3.size)
  have hc4 : ∀ i (h : i < f.length), w4.cell? ⟨w3.heap.size, i, none⟩ = some (.int .i64 f[i]) := fun i h => by rw [b4.cell i]; exact HCF.out i h
  have HC4 := Lib.hid hc4
  have H4 := Lib.hid hw4
  clear hc4 b4 hw4 HFD HCF s6
  go_wp2_with fail
  rw [← H4.out]
  go_loop [6] (fun t => ∃ i : Nat, t = .int .i64 i ∧ n ≤ i ∧ i ≤ 5 ∧ ∀ q (hq : q < f.length), n ≤ q → q < i → f[q] = 0) (fun t => 5 - (intOf t).toNat)
  case atStart => exact ⟨n, rfl, Nat.le_refl _, hn5, fun q hq h1 h2 => by omega⟩
  case round =>
    obtain ⟨i, rfl, hni, hi, hz⟩ := hrel
    have HZ := Lib.hid hz
    clear hz
    by_cases hlt : i < 5
    · have hqi : i < f.length := by have := HFL.out; omega
      have hci := HC4.out i hqi
      have HX := Lib.hid (drop_not hqi hni)
      have HQ := Lib.hid (show ∀ x, x = f[i] → x = 0 → ∀ q (hq : q < f.length), n ≤ q → q < i + 1 → f[q] = 0 from fun x hx h0 q hq h1 h2 => by
        by_cases e : q = i
        · subst e; rw [← hx]; exact h0
        · exact HZ.out q hq h1 (by omega))
      obtain ⟨x, hx⟩ : ∃ x, x = f[i] := ⟨_, rfl⟩
      rw [← hx] at hci HX
      have HXE := Lib.hid hx
      clear hx
      by_cases h0 : x = 0
      · have d0 : (x != 0) = false := by simp [h0]
        have H0 := Lib.hid h0
        clear h0
        go_wp2_with fail
        go_round
        case rel => exact ⟨i + 1, by go_num, by omega, by omega, HQ.out x HXE.out H0.out⟩
        case measure => simp [intOf]; omega
      · have d0 : (x != 0) = true := by simp [h0]
        have hr : r = false := by
          rw [HR.out]
          exact decide_eq_false fun h => by
            have := (HTV.out.1 h).1
            rw [HX.out h0] at this
            cases this
        subst hr
        clear h0
        go_wp2_with fail
        go_ret
        exact ⟨l4, rfl⟩
    · have hi5 : i = 5 := by omega
      have hall : (f.drop n).all (· = 0) = true := drop_all HFL.out (fun q hq h => HZ.out q hq h (by have := HFL.out; omega))
      have hiff : (textT k f kp).2 = 0 ↔ wd ≠ [] ∧ (kp.length = 0 ∨ (wd = [99, 114, 97, 115, 104] ∧ kp.length ≤ 16)) := by
        rw [HTV.out]
        constructor
        · rintro ⟨_, h⟩; exact h
        · intro h; exact ⟨hall, h⟩
      have HI := Lib.hid hiff
      clear hall hiff HZ HC4
      by_cases he : wd = []
      · have d1 : (sw.toList == []) = true := by rw [lit_str']; exact decide_eq_true (HS.out.trans he)
        have hr : r = false := by rw [HR.out]; exact decide_eq_false fun h => (HI.out.1 h).1 he
        subst hr
        clear he
        go_wp2_with fail
        go_ret
        exact ⟨l4, rfl⟩
      have d1 : (sw.toList == []) = false := by rw [lit_str', HS.out]; exact decide_eq_false he
      by_cases hl : kp.length = 0
      · have d2 : ((kp.length : Int) == 0) = true := by simp [hl]
        have hr : r = true := by rw [HR.out]; exact decide_eq_true (HI.out.2 ⟨he, .inl hl⟩)
        subst hr
        clear he hl
        go_wp2_with fail
        go_ret
        exact ⟨l4, rfl⟩
      have d2 : ((kp.length : Int) == 0) = false := by simp; intro h; exact hl (by rw [h]; rfl)
      by_cases hc : wd = [99, 114, 97, 115, 104]
      · have d3 : (sw.toList == [99, 114, 97, 115, 104]) = true := by rw [lit_str']; exact decide_eq_true (HS.out.trans hc)
        by_cases h16 : kp.length ≤ 16
        · have d4 : decide ((kp.length : Int) ≤ 16) = true := decide_eq_true (by omega)
          have hr : r = true := by rw [HR.out]; exact decide_eq_true (HI.out.2 ⟨he, .inr ⟨hc, h16⟩⟩)
          subst hr
          clear he hl hc
          go_wp2_with fail
          go_ret
          exact ⟨l4, rfl⟩
        · have d4 : decide ((kp.length : Int) ≤ 16) = false := decide_eq_false (by omega)
          have hr : r = false := by rw [HR.out]; exact decide_eq_false fun h => by rcases (HI.out.1 h).2 with h | ⟨_, h⟩ <;> omega
          subst hr
          clear he hl hc
          go_wp2_with fail
          go_ret
          exact ⟨l4, rfl⟩
      · have d3 : (sw.toList == [99, 114, 97, 115, 104]) = false := by rw [lit_str', HS.out]; exact decide_eq_false hc
        have hr : r = false := by
          rw [HR.out]
          refine decide_eq_false fun h => ?_
          rcases (HI.out.1 h).2 with h | ⟨h, _⟩
          · exact hl h
          · exact hc h
        subst hr
        clear he hl hc
        go_wp2_with fail
        go_ret
        exact ⟨l4, rfl⟩
end Go.Proofs.YtddnmocoaahlfaaGreatDoor
