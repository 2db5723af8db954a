/-
  The contracts of numbers and Text. Conditions: the package-level variables hold what the program lays.
-/
import Derived.Test.YtddnmocoaahlfaaGreatDoorY36
set_option linter.unusedVariables false
set_option linter.unusedSimpArgs false
set_option maxRecDepth 100000
set_option maxHeartbeats 4000000
namespace Go.Proofs.YtddnmocoaahlfaaGreatDoor
open Go.RowKit Go.Shelf
def numsL (k : Nat) (f keep : List Int) : Option (List Int) :=
  if (f.drop (fieldsOf k)).all (· = 0) then (if k = 17 then (if keep.length ≤ 16 then some keep else none) else if keep.length = 0 then some (f.take (fieldsOf k)) else none) else none
theorem textT_nums (kind : Int) (f keep : List Int) : textT kind f keep = if kind < 1 ∨ kind > 17 then ([], (2 : Int)) else match numsL kind.toNat f keep with | none => ([], (2 : Int)) | some l => (lineT (wordOf kind.toNat) l, 0) := by
  unfold textT numsL
  split
  · rfl
  · rename_i hk
    by_cases hz : (f.drop (fieldsOf kind.toNat)).all (· = 0) = true
    · rw [if_pos hz, if_pos hz]
      by_cases h17 : kind = 17
      · have h17' : kind.toNat = 17 := by omega
        rw [if_pos h17, if_pos h17', h17']
        by_cases hl : keep.length ≤ 16
        · rw [if_pos hl, if_pos hl]
        · rw [if_neg hl, if_neg hl]
      · have h17' : ¬ kind.toNat = 17 := by omega
        rw [if_neg h17, if_neg h17']
        by_cases hl : keep.length = 0
        · rw [if_pos hl, if_pos hl]
        · rw [if_neg hl, if_neg hl]
    · rw [if_neg hz, if_neg hz]
theorem fields_get {j : Nat} (hj : j < 17) : fieldsOf (j + 1) = (actWords[j]!).2 := by unfold fieldsOf; rw [Nat.add_sub_cancel, acts_get hj]
theorem word_get {j : Nat} (hj : j < 17) : wordOf (j + 1) = (actWords[j]!).1 := by unfold wordOf; rw [Nat.add_sub_cancel, acts_get hj]
theorem acts_word {w : World} (h : Acts w) {j : Nat} (hj : j < 17) : w.cell? ⟨0, j * 3, none⟩ = some (.string ⟨(actWords[j]!).1.toArray⟩) := by have := h.2 j hj 0 _ rfl; rwa [Nat.zero_add] at this
def RetNums (w : World) (r : Option (List Int)) (e : Ending) (w' : World) : Prop := Below w.heap.size w w' ∧ match r with
  | none => ∃ v, e = .returned (.tuple #[v, .bool false])
  | some l => ∃ v, e = .returned (.tuple #[v, .bool true]) ∧ NRow w' v l
theorem drop_all {f : List Int} (hf : f.length = 5) {n : Nat} (h : ∀ j (hj : j < f.length), n ≤ j → f[j] = 0) : (f.drop n).all (· = 0) = true := by
  rw [List.all_eq_true]
  intro x hx
  obtain ⟨i, hi, rfl⟩ := List.getElem_of_mem hx
  rw [List.getElem_drop]
  simp only [List.length_drop] at hi
  simp [h (n + i) (by omega) (by omega)]
theorem drop_not {f : List Int} {n j : Nat} (hj : j < f.length) (hn : n ≤ j) (h0 : f[j] ≠ 0) : (f.drop n).all (· = 0) = false := by
  rw [Bool.eq_false_iff]
  intro h
  rw [List.all_eq_true] at h
  have := h f[j] (by
    rw [List.mem_iff_getElem]
    exact ⟨j - n, by simp; omega, by rw [List.getElem_drop]; congr 1; omega⟩)
  exact h0 (by simpa using this)
theorem nrow_take {w : World} {A : Nat} {f : List Int} (h : ∀ i (hi : i < f.length), w.cell? ⟨A, i, none⟩ = some (.int .i64 f[i])) (n : Nat) (hn : n ≤ f.length) (c : Nat) (hc : n ≤ c) : NRow w (.slice (some ⟨A, 0, none⟩) n c) (f.take n) := by
  have hl : (f.take n).length = n := by rw [List.length_take]; omega
  by_cases h0 : n = 0
  · subst h0; exact .inl ⟨rfl, _, _, rfl⟩
  · refine .inr ⟨fun e => h0 (by rw [← hl, e]; rfl), A, 0, c, by rw [hl], by rw [hl]; exact hc, fun j hj => ?_⟩
    rw [hl] at hj
    rw [Nat.zero_add, h j (by omega), List.getElem_take]
theorem numbers_any {w : World} (ha : Acts w) {k : Nat} (hk1 : 1 ≤ k) (hk2 : k ≤ 17) {a b c d e : Int} {kv : Value} {kp : List Int} (hkv : NRow w kv kp) :
    Calls Tryz.prog 41 #[.agg #[.int .i64 k, .int .i64 a, .int .i64 b, .int .i64 c, .int .i64 d, .int .i64 e, kv]] w (RetNums w (numsL k [a, b, c, d, e] kp)) := by
  obtain ⟨res, hres⟩ : ∃ res, res = numsL k [a, b, c, d, e] kp := ⟨_, rfl⟩
  rw [← hres]
  obtain ⟨j, rfl⟩ : ∃ j, k = j + 1 := ⟨k - 1, by omega⟩
  have hj : j < 17 := by omega
  obtain ⟨ka, kc, rfl⟩ := hkv.form
  obtain ⟨w1, hw1⟩ : ∃ w1, w1 = w.alloc (.cells #[.int .i64 ((j : Int) + 1), .int .i64 a, .int .i64 b, .int .i64 c, .int .i64 d, .int .i64 e, .slice ka kp.length kc] 24) := ⟨_, rfl⟩
  obtain ⟨w2, hw2⟩ : ∃ w2, w2 = w1.alloc (.cells #[.int .i64 a, .int .i64 b, .int .i64 c, .int .i64 d, .int .i64 e] 3) := ⟨_, rfl⟩
  have z1 : w1.heap.size = w.heap.size + 1 := by rw [hw1]; simp
  have l1 : Below w.heap.size w w1 := by rw [hw1]; exact (Below.refl _ _).alloc (Nat.le_refl _) _
  have l2 : Below w.heap.size w w2 := l1.trans (by rw [hw2]; exact (Below.refl _ _).alloc (by omega) _)
  have b2 : Blk w2 (w.heap.size + 1) #[.int .i64 a, .int .i64 b, .int .i64 c, .int .i64 d, .int .i64 e] 3 := by rw [hw2, ← z1]; exact Blk.new w1 _ _
  have bA : Blk w2 w.heap.size #[.int .i64 ((j : Int) + 1), .int .i64 a, .int .i64 b, .int .i64 c, .int .i64 d, .int .i64 e, .slice ka kp.length kc] 24 := by rw [hw2, hw1]; exact (Blk.new w _ _).alloc _
  have c6 : w2.cell? ⟨w.heap.size, 6, none⟩ = some (.slice ka kp.length kc) := (bA.cell 6).trans rfl
  have c00 : w2.cell? ⟨w.heap.size, 0, none⟩ = some (.int .i64 ((j : Int) + 1)) := (bA.cell 0).trans rfl
  obtain ⟨f, hf⟩ : ∃ f : List Int, f = [a, b, c, d, e] := ⟨_, rfl⟩
  have hfl : f.length = 5 := by rw [hf]; rfl
  have hcf : ∀ i (h : i < f.length), w2.cell? ⟨w.heap.size + 1, i, none⟩ = some (.int .i64 f[i]) := fun i h => by
    rw [b2.cell i]
    have h5 : i < 5 := by omega
    subst hf
    match i, h5 with
    | 0, _ => rfl
    | 1, _ => rfl
    | 2, _ => rfl
    | 3, _ => rfl
    | 4, _ => rfl
  have hn := acts_num (ha.below l2) hj
  have hn5 := acts_le j hj
  have hres2 : res = if (f.drop (actWords[j]!).2).all (· = 0) then (if j + 1 = 17 then (if kp.length ≤ 16 then some kp else none) else if kp.length = 0 then some (f.take (actWords[j]!).2) else none) else none := by
    rw [hres, ← hf]; unfold numsL; rw [fields_get hj]
  generalize (actWords[j]!).2 = n at *
  have HRS := Lib.hid hres2
  have HKV := Lib.hid (hkv.below l2)
  have HCF := Lib.hid hcf
  have HFL := Lib.hid hfl
  have HW1 := Lib.hid hw1
  have HW2 := Lib.hid hw2
  have Z1 := Lib.hid z1
  have hnum0 : w.cell? ⟨0, j * 3 + 1, none⟩ = some (.int .i64 n) := by
    have h0 := ha.1
    have := l2.cell (p := ⟨0, j * 3 + 1, none⟩) h0
    rw [← this]; exact hn
  have h00 := ha.1
  clear hres hres2 hkv hcf ha hf hfl hw1 hw2 z1 b2 bA hn
  have hwj : ((j : Int) + 1 - 1) = j := by omega
  by_cases h5 : n = 5
  · subst h5
    have hall : (f.drop 5).all (· = 0) = true := drop_all HFL.out (fun j hj h => by have := HFL.out; omega)
    have HALL := Lib.hid hall
    clear hall
    go_enter Tryz.func41, Tryz.ntmps41
    go_wp2_with fail
    refine wp_loop_rounds 1 ?_
    rw [rounds_succ]
    by_cases h17 : j + 1 = 17
    · have d17 : (((j : Int) + 1) == 17) = true := by simp; omega
      have hr : res = if kp.length ≤ 16 then some kp else none := by rw [HRS.out, if_pos HALL.out, if_pos h17]
      have HR := Lib.hid hr
      clear hr h17
      go_wp2_with fail
      go_quiet (fail)
      go_wp2_with fail
      go_ret2
      unfold RetNums
      rw [HR.out]
      rw [← HW1.out, ← HW2.out]
      refine ⟨l2.trans ((drewN_below w2 _).mono l2.size), ?_⟩
      by_cases hl : kp.length ≤ 16
      · rw [if_pos hl]
        exact ⟨.slice ka kp.length kc, by show Ending.returned (.tuple #[.slice ka kp.length kc, .bool (decide ((kp.length : Int) ≤ 16))]) = _; rw [decide_eq_true (by omega : (kp.length : Int) ≤ 16)], HKV.out.below (drewN_below w2 _)⟩
      · rw [if_neg hl]
        exact ⟨.slice ka kp.length kc, by show Ending.returned (.tuple #[.slice ka kp.length kc, .bool (decide ((kp.length : Int) ≤ 16))]) = _; rw [decide_eq_false (by omega : ¬ (kp.length : Int) ≤ 16)]⟩
    · have d17 : (((j : Int) + 1) == 17) = false := by simp; omega
      have hr : res = if kp.length = 0 then some (f.take 5) else none := by rw [HRS.out, if_pos HALL.out, if_neg h17]
      have HR := Lib.hid hr
      clear hr h17
      go_wp2_with fail
      go_quiet (fail)
      go_wp2_with fail
      go_ret2
      unfold RetNums
      rw [HR.out]
      rw [← HW1.out, ← HW2.out]
      refine ⟨l2.trans ((drewN_below w2 _).mono l2.size), ?_⟩
      by_cases hl : kp.length = 0
      · rw [if_pos hl]
        exact ⟨.slice (some ⟨w.heap.size + 1, 0, none⟩) 5 5, by show Ending.returned (.tuple #[.slice (some ⟨w.heap.size + 1, 0, none⟩) 5 5, .bool ((kp.length : Int) == 0)]) = _; rw [beq_iff_eq.2 (by omega : (kp.length : Int) = 0)], (nrow_take HCF.out 5 (by have := HFL.out; omega) _ (by omega)).below (drewN_below w2 _)⟩
      · rw [if_neg hl]
        exact ⟨.slice (some ⟨w.heap.size + 1, 0, none⟩) 5 5, by show Ending.returned (.tuple #[.slice (some ⟨w.heap.size + 1, 0, none⟩) 5 5, .bool ((kp.length : Int) == 0)]) = _; rw [beq_eq_false_iff_ne.2 (by omega : (kp.length : Int) ≠ 0)]⟩
  · have h5n : ¬ 5 - n = 0 := by omega
    have hlt5 : n < 5 := by omega
    go_enter Tryz.func41, Tryz.ntmps41
    go_wp2_with fail
    go_loop [29] (fun t => ∃ i : Nat, t = .int .i64 i ∧ i ≤ 5 - n ∧ ∀ q (hq : q < f.length), n ≤ q → q < n + i → f[q] = 0) (fun t => 5 - n - (intOf t).toNat)
    case atStart => exact ⟨0, rfl, Nat.zero_le _, fun q hq h1 h2 => by omega⟩
    case round =>
      obtain ⟨i, rfl, hi, hz⟩ := hrel
      have HZ := Lib.hid hz
      clear hz
      by_cases hlt : i < 5 - n
      · have hqi : n + i < f.length := by have := HFL.out; omega
        have hci := HCF.out (n + i) hqi
        have HX := Lib.hid (drop_not hqi (Nat.le_add_right n i))
        have HQ := Lib.hid (show ∀ x, x = f[n + i] → x = 0 → ∀ q (hq : q < f.length), n ≤ q → q < n + (i + 1) → f[q] = 0 from fun x hx h0 q hq h1 h2 => by
          by_cases e : q = n + i
          · subst e; rw [← hx]; exact h0
          · exact HZ.out q hq h1 (by omega))
        obtain ⟨x, hx⟩ : ∃ x, x = f[n + i] := ⟨_, rfl⟩
        rw [← hx] at hci HX
        have HXE := Lib.hid hx
        clear hx
        rw [HW2.out, HW1.out] at hci
        by_cases h0 : x = 0
        · have d0 : (x != 0) = false := by simp [h0]
          have H0 := Lib.hid h0
          clear h0
          go_wp2_with fail
          go_round
          case rel => exact ⟨i + 1, by go_num, by omega, HQ.out x HXE.out H0.out⟩
          case measure => simp [intOf]; omega
        · have d0 : (x != 0) = true := by simp [h0]
          have hr : res = none := by rw [HRS.out, HX.out h0]; rfl
          have HR := Lib.hid hr
          clear hr h0
          go_wp2_with fail
          go_ret2
          unfold RetNums
          rw [HR.out]
          rw [← HW1.out, ← HW2.out]
          exact ⟨l2, _, rfl⟩
      · have hall : (f.drop n).all (· = 0) = true := drop_all HFL.out (fun q hq h => HZ.out q hq h (by have := HFL.out; omega))
        have HALL := Lib.hid hall
        clear hall
        by_cases h17 : j + 1 = 17
        · have d17 : (((j : Int) + 1) == 17) = true := by simp; omega
          have hr : res = if kp.length ≤ 16 then some kp else none := by rw [HRS.out, if_pos HALL.out, if_pos h17]
          have HR := Lib.hid hr
          clear hr h17
          go_wp2_with fail
          go_quiet (fail)
          go_wp2_with fail
          go_ret2
          unfold RetNums
          rw [HR.out]
          rw [← HW1.out, ← HW2.out]
          refine ⟨l2.trans ((drewN_below w2 _).mono l2.size), ?_⟩
          by_cases hl : kp.length ≤ 16
          · rw [if_pos hl]
            exact ⟨.slice ka kp.length kc, by show Ending.returned (.tuple #[.slice ka kp.length kc, .bool (decide ((kp.length : Int) ≤ 16))]) = _; rw [decide_eq_true (by omega : (kp.length : Int) ≤ 16)], HKV.out.below (drewN_below w2 _)⟩
          · rw [if_neg hl]
            exact ⟨.slice ka kp.length kc, by show Ending.returned (.tuple #[.slice ka kp.length kc, .bool (decide ((kp.length : Int) ≤ 16))]) = _; rw [decide_eq_false (by omega : ¬ (kp.length : Int) ≤ 16)]⟩
        · have d17 : (((j : Int) + 1) == 17) = false := by simp; omega
          have hr : res = if kp.length = 0 then some (f.take n) else none := by rw [HRS.out, if_pos HALL.out, if_neg h17]
          have HR := Lib.hid hr
          clear hr h17
          go_wp2_with fail
          go_quiet (fail)
          go_wp2_with fail
          go_ret2
          unfold RetNums
          rw [HR.out]
          rw [← HW1.out, ← HW2.out]
          refine ⟨l2.trans ((drewN_below w2 _).mono l2.size), ?_⟩
          by_cases hl : kp.length = 0
          · rw [if_pos hl]
            exact ⟨.slice (some ⟨w.heap.size + 1, 0, none⟩) n 5, by show Ending.returned (.tuple #[.slice (some ⟨w.heap.size + 1, 0, none⟩) n 5, .bool ((kp.length : Int) == 0)]) = _; rw [beq_iff_eq.2 (by omega : (kp.length : Int) = 0)], (nrow_take HCF.out n (by have := HFL.out; omega) _ (by omega)).below (drewN_below w2 _)⟩
          · rw [if_neg hl]
            exact ⟨.slice (some ⟨w.heap.size + 1, 0, none⟩) n 5, by show Ending.returned (.tuple #[.slice (some ⟨w.heap.size + 1, 0, none⟩) n 5, .bool ((kp.length : Int) == 0)]) = _; rw [beq_eq_false_iff_ne.2 (by omega : (kp.length : Int) ≠ 0)]⟩
def RetTE (w : World) (r : List UInt8 × Int) (e : Ending) (w' : World) : Prop := Below w.heap.size w w' ∧ ∃ s : ByteArray, e = .returned (.tuple #[.string s, .int .i64 r.2]) ∧ txt s = r.1
theorem numsL_len {k : Nat} {f keep l : List Int} (hf : f.length = 5) (h : numsL k f keep = some l) : l.length ≤ 16 ∧ ∀ n ∈ l, n ∈ f ++ keep := by
  unfold numsL at h
  split at h
  · split at h
    · split at h
      · injection h with h; subst h; exact ⟨by assumption, fun n hn => by simp [hn]⟩
      · cases h
    · split at h
      · injection h with h; subst h; exact ⟨by rw [List.length_take]; omega, fun n hn => by simp [List.mem_of_mem_take hn]⟩
      · cases h
  · cases h
theorem word_len : ∀ j, j < 17 → (actWords[j]!).1.length ≤ 64 := by decide
theorem text_any {w : World} (he : Env w) {kind a b c d e : Int} {kv : Value} {kp : List Int} (hi : ∀ n ∈ [a, b, c, d, e] ++ kp, I64 n) (hkv : NRow w kv kp) :
    Calls Tryz.prog 20 #[.agg #[.int .i64 kind, .int .i64 a, .int .i64 b, .int .i64 c, .int .i64 d, .int .i64 e, kv]] w (RetTE w (textT kind [a, b, c, d, e] kp)) := by
  rw [textT_nums]
  obtain ⟨res, hres⟩ : ∃ res : List UInt8 × Int, res = if kind < 1 ∨ kind > 17 then ([], (2 : Int)) else match numsL kind.toNat [a, b, c, d, e] kp with | none => ([], (2 : Int)) | some l => (lineT (wordOf kind.toNat) l, 0) := ⟨_, rfl⟩
  rw [← hres]
  obtain ⟨ka, kc, rfl⟩ := hkv.form
  by_cases h1 : kind < 1
  · have hr : res = ([], 2) := by rw [hres, if_pos (.inl h1)]
    have HR := Lib.hid hr
    have d1 : decide (kind < 1) = true := decide_eq_true h1
    clear hr hres he hi hkv
    go_enter Tryz.func20, Tryz.ntmps20
    go_wp2_with fail
    go_ret2
    unfold RetTE
    rw [HR.out]
    exact ⟨(Below.refl _ _).alloc (Nat.le_refl _) _, _, rfl, rfl⟩
  · have d1 : decide (kind < 1) = false := decide_eq_false h1
    by_cases h2 : kind > 17
    · have hr : res = ([], 2) := by rw [hres, if_pos (.inr h2)]
      have HR := Lib.hid hr
      have d2 : decide (17 < kind) = true := decide_eq_true h2
      clear hr hres he hi hkv
      go_enter Tryz.func20, Tryz.ntmps20
      go_wp2_with fail
      go_ret2
      unfold RetTE
      rw [HR.out]
      exact ⟨(Below.refl _ _).alloc (Nat.le_refl _) _, _, rfl, rfl⟩
    · have d2 : decide (17 < kind) = false := decide_eq_false h2
      obtain ⟨j, hj, rfl⟩ : ∃ j : Nat, j < 17 ∧ kind = ((j : Int) + 1) := ⟨(kind - 1).toNat, by omega, by omega⟩
      have hres2 : res = match numsL (j + 1) [a, b, c, d, e] kp with | none => ([], (2 : Int)) | some l => (lineT (wordOf (j + 1)) l, 0) := by
        rw [hres, if_neg (by omega), show ((j : Int) + 1).toNat = j + 1 by omega]
      obtain ⟨w1, hw1⟩ : ∃ w1, w1 = w.alloc (.cells #[.int .i64 ((j : Int) + 1), .int .i64 a, .int .i64 b, .int .i64 c, .int .i64 d, .int .i64 e, .slice ka kp.length kc] 24) := ⟨_, rfl⟩
      have l1 : Below w.heap.size w w1 := by rw [hw1]; exact (Below.refl _ _).alloc (Nat.le_refl _) _
      have bA : Blk w1 w.heap.size #[.int .i64 ((j : Int) + 1), .int .i64 a, .int .i64 b, .int .i64 c, .int .i64 d, .int .i64 e, .slice ka kp.length kc] 24 := by rw [hw1]; exact Blk.new w _ _
      have HN := numbers_any (he.acts.below l1) (k := j + 1) (by omega) (by omega) (a := a) (b := b) (c := c) (d := d) (e := e) (hkv.below l1)
      rw [show ((j + 1 : Nat) : Int) = (j : Int) + 1 from by omega] at HN
      have HNN := Lib.hid HN
      have HRS := Lib.hid hres2
      have HW := Lib.hid hw1
      have HBA := Lib.hid bA
      have hwj : ((j : Int) + 1 - 1) = j := by omega
      clear hres hres2 HN hw1 bA hkv h1 h2
      cases hx : numsL (j + 1) [a, b, c, d, e] kp with
      | none =>
        rw [hx] at HRS HNN
        have HR := Lib.hid HRS.out
        clear hx he hi
        go_enter Tryz.func20, Tryz.ntmps20
        go_wp2_with fail
        rw [← HW.out]
        refine HNN.out.mono ?_
        rintro ex w2 ⟨b2, v, rfl⟩
        go_wp2_with fail
        go_ret2
        unfold RetTE
        rw [HR.out]
        exact ⟨l1.trans (b2.mono l1.size), _, rfl, rfl⟩
      | some l =>
        obtain ⟨hl16, hmem⟩ := numsL_len (f := [a, b, c, d, e]) rfl hx
        rw [hx] at HRS HNN
        simp only at HRS
        have hil : ∀ n ∈ l, I64 n := fun n hn => hi n (hmem n hn)
        have hwl := word_len j hj
        have hlen := lineT_len (actWords[j]!).1 l hil
        have hword := acts_word he.acts hj
        have hwg := word_get hj
        have H0 := he.acts.1
        have HIL := Lib.hid hil
        have HE := Lib.hid he
        have HHM := Lib.hid hlen
        generalize (actWords[j]!).1 = wd at *
        have hjoin : ∀ W, Below w.heap.size w W → ∀ v, NRow W v l → Calls Tryz.prog 42 #[.string ⟨wd.toArray⟩, v, .slice none 0 0] W (RetStr W (lineT wd l)) := fun W hW v hv => by
          have h := join_any (tab_below HE.out.tab hW) (word := ⟨wd.toArray⟩) (mv := .slice none 0 0) (ms := []) hv HIL.out (.inl ⟨rfl, _, _, rfl⟩) (by omega) (by simp) (by
            show (joinB 32 wd (l.map Lib.itoa ++ [])).length ≤ _
            rw [List.append_nil, ← line_join]; have := HHM.out; omega)
          have e1 : joinB 32 (txt ⟨wd.toArray⟩) (l.map Lib.itoa ++ List.map txt []) = lineT wd l := by
            show joinB 32 wd (l.map Lib.itoa ++ []) = _
            rw [List.append_nil, line_join]
          rw [e1] at h
          exact h
        have HJ := Lib.hid hjoin
        have HR := Lib.hid (HRS.out.trans (by rw [hwg]))
        have HWD := Lib.hid hword
        clear hx he hi hil hmem hlen hjoin hwg hword HRS
        go_enter Tryz.func20, Tryz.ntmps20
        go_wp2_with fail
        rw [← HW.out]
        refine HNN.out.mono ?_
        rintro ex w2 ⟨b2, v, rfl, hv⟩
        have l2 : Below w.heap.size w w2 := l1.trans (b2.mono l1.size)
        obtain ⟨va, vc, rfl⟩ := hv.form
        have c0 : w2.cell? ⟨w.heap.size, 0, none⟩ = some (.int .i64 ((j : Int) + 1)) := cell_below ((HBA.out.cell 0).trans rfl) b2
        have cw := cell_below HWD.out l2
        go_wp2_with fail
        refine (HJ.out w2 l2 _ hv).mono ?_
        rintro ex w3 ⟨b3, s, rfl, hs⟩
        go_wp2_with fail
        go_ret2
        unfold RetTE
        rw [HR.out]
        exact ⟨l2.trans (b3.mono l2.size), s, rfl, hs⟩
end Go.Proofs.YtddnmocoaahlfaaGreatDoor
