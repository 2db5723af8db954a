/-
  The contract of makeAct. Condition: rows of at most 16 numbers; of at most five where the kind is not the last one.
-/
import Derived.Test.YtddnmocoaahlfaaGreatDoorY13
import Derived.Test.YtddnmocoaahlfaaGreatDoorMach
import Derived.Laws.CopyOwn
set_option linter.unusedVariables false
set_option linter.unusedSimpArgs false

namespace Go.Proofs.YtddnmocoaahlfaaGreatDoor
open Go.RowKit Go.Shelf
/-- The cells of an act. -/
def actCells (a : Act5) (kv : Value) : List Value := .int .i64 a.kind :: (a.f.map fun n => .int .i64 n) ++ [kv]
theorem splice5 : ∀ l : List Int, l.length ≤ 5 → splice [.int .i64 0, .int .i64 0, .int .i64 0, .int .i64 0, .int .i64 0] 0 (l.map fun n => Value.int .i64 n) = ((l ++ [0, 0, 0, 0, 0]).take 5).map fun n => Value.int .i64 n
  | [], _ => rfl
  | [_], _ => rfl
  | [_, _], _ => rfl
  | [_, _, _], _ => rfl
  | [_, _, _, _], _ => rfl
  | [_, _, _, _, _], _ => rfl
  | _ :: _ :: _ :: _ :: _ :: _ :: _, h => by simp at h
theorem five {l : List Int} (h : l.length = 5) : ∃ a b c d e, l = [a, b, c, d, e] := by
  match l, h with
  | [a, b, c, d, e], _ => exact ⟨a, b, c, d, e, rfl⟩
/-- What makeAct ends in. -/
def RetA (w : World) (a : Act5) (e : Ending) (w' : World) : Prop := Below w.heap.size w w' ∧ ∃ kv, e = .returned (.agg (actCells a kv).toArray) ∧ IRow w' w.heap.size kv a.keep
theorem irow_form {w : World} {b : Nat} {v : Value} {l : List Int} (h : IRow w b v l) : (v = .slice none 0 0 ∧ l = []) ∨ ∃ L cap, v = .slice (some ⟨L, 0, none⟩) l.length cap ∧ L < w.heap.size ∧ ∀ j u, (l.map fun n => Value.int .i64 n)[j]? = some u → w.cell? ⟨L, 0 + j, none⟩ = some u := by
  rcases h.2 with ⟨h1, h2⟩ | ⟨g, cap, cur, rfl, _, hg, _⟩
  · exact .inl ⟨h1, List.length_eq_zero_iff.1 h2⟩
  · refine .inr ⟨g, cap, rfl, (Array.getElem?_eq_some_iff.1 hg).1, fun j u hj => ?_⟩
    obtain ⟨hlt, hu⟩ := List.getElem?_eq_some_iff.1 hj
    have hlt' := hlt
    rw [List.length_map] at hlt'
    have := row_get h (by omega) j hlt
    rw [Nat.zero_add, this, hu]
set_option maxRecDepth 100000 in
set_option maxHeartbeats 4000000 in
theorem makeAct_five {w : World} {b : Nat} {v : Value} {l : List Int} (k : Nat) (h : IRow w b v l) (hk : k < 17) (hl : l.length ≤ 5) : Calls Tryz.prog 46 #[.int .i64 k, v] w (RetA w (makeActL k l)) := by
  obtain ⟨a, f0, c, d, e, hf⟩ := five (l := (l ++ [0, 0, 0, 0, 0]).take 5) (by simp)
  have hm : makeActL k l = ⟨k, [a, f0, c, d, e], []⟩ := by unfold makeActL; rw [if_neg (by omega), hf]
  rw [hm]
  have hs := splice5 l hl
  rw [hf] at hs
  have HS := Lib.hid hs
  have h17 : ((k : Int) == 17) = false := by simp; omega
  have hv : ∃ sp c, v = .slice sp l.length c ∧ (0 < l.length → ∃ L, sp = some ⟨L, 0, none⟩ ∧ L < w.heap.size ∧ ∀ j u, (l.map fun n => Value.int .i64 n)[j]? = some u → w.cell? ⟨L, 0 + j, none⟩ = some u) := by
    rcases irow_form h with ⟨rfl, rfl⟩ | ⟨L, cap, rfl, h1, h2⟩
    · exact ⟨none, 0, rfl, fun h => by simp at h⟩
    · exact ⟨_, cap, rfl, fun _ => ⟨L, rfl, h1, h2⟩⟩
  obtain ⟨sp, cv, rfl, hsp⟩ := hv
  have HV := Lib.hid hsp
  clear hsp hf hm hs
  obtain ⟨w1, hw1⟩ : ∃ w1, w1 = w.alloc (.cells #[.int .i64 0, .int .i64 0, .int .i64 0, .int .i64 0, .int .i64 0, .int .i64 0, .slice none 0 0] 24) := ⟨_, rfl⟩
  have b1 : Blk w1 w.heap.size #[.int .i64 0, .int .i64 0, .int .i64 0, .int .i64 0, .int .i64 0, .int .i64 0, .slice none 0 0] 24 := by rw [hw1]; exact Blk.new w _ _
  have l1 : Below w.heap.size w w1 := by rw [hw1]; exact (Below.refl _ _).alloc (Nat.le_refl _) _
  have z1 : w1.heap.size = w.heap.size + 1 := by rw [hw1]; simp
  obtain ⟨w2, hw2⟩ : ∃ w2, w2 = w1.alloc (.cells #[.int .i64 0, .int .i64 0, .int .i64 0, .int .i64 0, .int .i64 0] 90) := ⟨_, rfl⟩
  have b2 : Blk w2 w1.heap.size #[.int .i64 0, .int .i64 0, .int .i64 0, .int .i64 0, .int .i64 0] 90 := by rw [hw2]; exact Blk.new w1 _ _
  have l2 : Below w.heap.size w w2 := l1.trans (by rw [hw2]; exact (Below.refl _ _).alloc (by omega) _)
  have b12 : Blk w2 w.heap.size #[.int .i64 0, .int .i64 0, .int .i64 0, .int .i64 0, .int .i64 0, .int .i64 0, .slice none 0 0] 24 := by rw [hw2]; exact b1.alloc _
  have l12 : Below (w.heap.size + 1) w1 w2 := by rw [hw2]; exact (Below.refl _ _).alloc (by omega) _
  have hlt := HV.out
  rw [z1] at b2
  have HW1 := Lib.hid hw1
  have HW2 := Lib.hid hw2
  clear hw1 hw2 hlt
  go_enter Tryz.func46, Tryz.ntmps46
  go_wp2_with (with_reducible (refine wpList_copy_splice rfl (.tmp 12) (.tmp 13) 22 22 rfl 3 Tryz.underlying22 ?c1 _ _ _ _ _ _ rfl rfl (w.heap.size + 1) 0 [.int .i64 0, .int .i64 0, .int .i64 0, .int .i64 0, .int .i64 0] 90 ?c2 (l.map fun n => Value.int .i64 n) ?c3 ?c4 ?c5 ?c6 (w.heap.size + 1) w1 ?c7 (Nat.le_refl _) ?c8))
  case c1 => kernel_rfl
  case c2 => rw [← HW1.out, ← HW2.out]; exact b2
  case c3 => rw [List.length_map]; exact (Nat.min_eq_left hl).symm
  case c4 =>
    intro hp
    obtain ⟨L, hsL, hL, hc⟩ := HV.out (by simpa using hp)
    refine ⟨⟨L, 0, none⟩, hsL, fun j u hj => ?_⟩
    rw [← HW1.out, ← HW2.out, Addr.add_lit]
    exact (l2.cell (p := ⟨L, 0 + j, none⟩) hL).trans (hc j _ (by simp [hj]))
  case c5 => simpa using hl
  case c6 => intro u hu; obtain ⟨n, _, rfl⟩ := List.mem_map.1 hu; rfl
  case c7 => rw [← HW1.out, ← HW2.out]; exact l12
  case c8 =>
  intro w3 hid3 hb3
  have hq := hid3.out
  rw [HS.out] at hq
  have q3 : Blk w3 (w.heap.size + 1) #[.int .i64 a, .int .i64 f0, .int .i64 c, .int .i64 d, .int .i64 e] 90 := hq
  have q0 : Blk w3 w.heap.size #[.int .i64 0, .int .i64 0, .int .i64 0, .int .i64 0, .int .i64 0, .int .i64 0, .slice none 0 0] 24 := (hb3.block w.heap.size (by omega)).trans b1
  have l3 : Below w.heap.size w w3 := l1.trans (hb3.mono (by omega))
  have e0 : w3.cell? ⟨w.heap.size + 1, 0, none⟩ = some (.int .i64 a) := (q3.cell 0).trans rfl
  have e1 : w3.cell? ⟨w.heap.size + 1, 1, none⟩ = some (.int .i64 f0) := (q3.cell 1).trans rfl
  have e2 : w3.cell? ⟨w.heap.size + 1, 2, none⟩ = some (.int .i64 c) := (q3.cell 2).trans rfl
  have e3 : w3.cell? ⟨w.heap.size + 1, 3, none⟩ = some (.int .i64 d) := (q3.cell 3).trans rfl
  have e4 : w3.cell? ⟨w.heap.size + 1, 4, none⟩ = some (.int .i64 e) := (q3.cell 4).trans rfl
  have g0 : w3.cell? ⟨w.heap.size, 0, none⟩ = some (.int .i64 0) := (q0.cell 0).trans rfl
  have z0 := q0.frozen 0
  have g1 : w3.cell? ⟨w.heap.size, 1, none⟩ = some (.int .i64 0) := (q0.cell 1).trans rfl
  have z1 := q0.frozen 1
  have g2 : w3.cell? ⟨w.heap.size, 2, none⟩ = some (.int .i64 0) := (q0.cell 2).trans rfl
  have z2 := q0.frozen 2
  have g3 : w3.cell? ⟨w.heap.size, 3, none⟩ = some (.int .i64 0) := (q0.cell 3).trans rfl
  have z3 := q0.frozen 3
  have g4 : w3.cell? ⟨w.heap.size, 4, none⟩ = some (.int .i64 0) := (q0.cell 4).trans rfl
  have z4 := q0.frozen 4
  have g5 : w3.cell? ⟨w.heap.size, 5, none⟩ = some (.int .i64 0) := (q0.cell 5).trans rfl
  have z5 := q0.frozen 5
  have g6 : w3.cell? ⟨w.heap.size, 6, none⟩ = some (.slice none 0 0) := (q0.cell 6).trans rfl
  have z6 := q0.frozen 6
  clear hid3 hq HS HV h
  go_wp2_with fail
  have hB := ((((((q0.set 0 (.int .i64 k)).set 1 (.int .i64 a)).set 2 (.int .i64 f0)).set 3 (.int .i64 c)).set 4 (.int .i64 d)).set 5 (.int .i64 e)).set 6 (.slice none 0 0)
  have hS : Stays (fun j => j = w.heap.size) w3 _ := ((((((Stays.cell (.refl _ w3) 0 (.int .i64 k)).cell 1 (.int .i64 a)).cell 2 (.int .i64 f0)).cell 3 (.int .i64 c)).cell 4 (.int .i64 d)).cell 5 (.int .i64 e)).cell 6 (.slice none 0 0)
  obtain ⟨w4, hw4⟩ : ∃ w4, w4 = (((((((w3.setCell { block := w.heap.size, off := 0 } (Value.int IntKind.i64 ↑k)).setCell { block := w.heap.size, off := 1 } (Value.int IntKind.i64 a)).setCell { block := w.heap.size, off := 2 } (Value.int IntKind.i64 f0)).setCell { block := w.heap.size, off := 3 } (Value.int IntKind.i64 c)).setCell { block := w.heap.size, off := 4 } (Value.int IntKind.i64 d)).setCell { block := w.heap.size, off := 5 } (Value.int IntKind.i64 e)).setCell { block := w.heap.size, off := 6 } (Value.slice none 0 0)) := ⟨_, rfl⟩
  rw [← hw4] at hB hS
  rw [← hw4]
  have hB' : Blk w4 w.heap.size #[.int .i64 k, .int .i64 a, .int .i64 f0, .int .i64 c, .int .i64 d, .int .i64 e, .slice none 0 0] 24 := hB
  clear hw4 hB
  have y0 : w4.cell? ⟨w.heap.size, 0, none⟩ = some (.int .i64 k) := (hB'.cell 0).trans rfl
  have y1 : w4.cell? ⟨w.heap.size, 1, none⟩ = some (.int .i64 a) := (hB'.cell 1).trans rfl
  have y2 : w4.cell? ⟨w.heap.size, 2, none⟩ = some (.int .i64 f0) := (hB'.cell 2).trans rfl
  have y3 : w4.cell? ⟨w.heap.size, 3, none⟩ = some (.int .i64 c) := (hB'.cell 3).trans rfl
  have y4 : w4.cell? ⟨w.heap.size, 4, none⟩ = some (.int .i64 d) := (hB'.cell 4).trans rfl
  have y5 : w4.cell? ⟨w.heap.size, 5, none⟩ = some (.int .i64 e) := (hB'.cell 5).trans rfl
  have y6 : w4.cell? ⟨w.heap.size, 6, none⟩ = some (.slice none 0 0) := (hB'.cell 6).trans rfl
  have hbl : Below w.heap.size w w4 := l3.trans (hS.below l3.size (fun j hj e => by omega))
  refine ⟨rfl, .agg #[.int .i64 k, .int .i64 a, .int .i64 f0, .int .i64 c, .int .i64 d, .int .i64 e, .slice none 0 0], ?_, hbl, .slice none 0 0, rfl, World.ownsRow_nil _ _ _ _⟩
  simp [results, Tryz.results46, go_sem, y0, y1, y2, y3, y4, y5, y6]
set_option maxRecDepth 100000 in
/-- A row of ints is copied. -/
theorem clone_any {w : World} {b : Nat} {v : Value} {l : List Int} (h : IRow w b v l) (hl : l.length ≤ 65536) : Calls Tryz.prog 80 #[v] w (fun e w' => ∃ v', e = .returned v' ∧ IRow w' w.heap.size v' l ∧ Below w.heap.size w w') := by
  rcases irow_form h with ⟨rfl, rfl⟩ | ⟨L, cap, rfl, h1, h2⟩
  · exact (Tryz.slices_Clone_nil 0 0 w).mono fun e w' ⟨h1, h2⟩ => ⟨_, h1, World.ownsRow_nil _ _ _ _, h2 ▸ Below.refl _ _⟩
  · obtain ⟨i0, hi, hz0, hz1, hz2⟩ := info_parts info3
    exact (Tryz.slices_Clone i0 (.int .i64 0) 1 8 hi hz0 hz1 hz2 rfl (by decide) (fun w => by kernel_rfl) L 0 l.length cap (l.map fun n => Value.int .i64 n) w (by simp) (by unfold maxLen; omega) (by omega) h2 (by intro u hu; obtain ⟨n, _, rfl⟩ := List.mem_map.1 hu; rfl)).mono fun e w' ⟨v', h1, h2, _, h4⟩ => ⟨v', h1, h2, h4⟩
set_option maxRecDepth 100000 in
set_option maxHeartbeats 4000000 in
theorem makeAct_crash {w : World} {b : Nat} {v : Value} {l : List Int} (h : IRow w b v l) (hl : l.length ≤ 65536) : Calls Tryz.prog 46 #[.int .i64 17, v] w (RetA w (makeActL 17 l)) := by
  have hm : makeActL 17 l = ⟨17, [0, 0, 0, 0, 0], l⟩ := rfl
  rw [hm]
  obtain ⟨w1, hw1⟩ : ∃ w1, w1 = w.alloc (.cells #[.int .i64 0, .int .i64 0, .int .i64 0, .int .i64 0, .int .i64 0, .int .i64 0, .slice none 0 0] 24) := ⟨_, rfl⟩
  have b1 : Blk w1 w.heap.size #[.int .i64 0, .int .i64 0, .int .i64 0, .int .i64 0, .int .i64 0, .int .i64 0, .slice none 0 0] 24 := by rw [hw1]; exact Blk.new w _ _
  have l1 : Below w.heap.size w w1 := by rw [hw1]; exact (Below.refl _ _).alloc (Nat.le_refl _) _
  have z1 : w1.heap.size = w.heap.size + 1 := by rw [hw1]; simp
  have hr1 : IRow w1 b v l := row_stays (M := fun _ => False) h (.of l1) (fun _ _ h => h)
  have HC := Lib.hid (clone_any hr1 hl)
  have HW1 := Lib.hid hw1
  clear hw1
  go_enter Tryz.func46, Tryz.ntmps46
  go_wp2_with fail
  rw [← HW1.out]
  refine HC.out.mono ?_
  rintro e w2 ⟨kv, rfl, hrow, b2⟩
  have hkf := irow_form hrow
  have q0 := Blk.below b1 b2
  have l2 : Below w.heap.size w w2 := l1.trans (b2.mono (by omega))
  have hkv : ∃ ka kn kc, kv = .slice ka kn kc := by
    rcases hkf with ⟨rfl, _⟩ | ⟨L, cap, rfl, _⟩
    · exact ⟨_, _, _, rfl⟩
    · exact ⟨_, _, _, rfl⟩
  obtain ⟨ka, kn, kc, rfl⟩ := hkv
  have hne : ∀ j, (Value.slice ka kn kc).ownBlock = some j → w1.heap.size ≤ j := fun j hj => (hrow.lt j hj).1
  have g0 : w2.cell? ⟨w.heap.size, 0, none⟩ = some (.int .i64 0) := (q0.cell 0).trans rfl
  have y0 := q0.frozen 0
  have g1 : w2.cell? ⟨w.heap.size, 1, none⟩ = some (.int .i64 0) := (q0.cell 1).trans rfl
  have yz1 := q0.frozen 1
  have g2 : w2.cell? ⟨w.heap.size, 2, none⟩ = some (.int .i64 0) := (q0.cell 2).trans rfl
  have y2 := q0.frozen 2
  have g3 : w2.cell? ⟨w.heap.size, 3, none⟩ = some (.int .i64 0) := (q0.cell 3).trans rfl
  have y3 := q0.frozen 3
  have g4 : w2.cell? ⟨w.heap.size, 4, none⟩ = some (.int .i64 0) := (q0.cell 4).trans rfl
  have y4 := q0.frozen 4
  have g5 : w2.cell? ⟨w.heap.size, 5, none⟩ = some (.int .i64 0) := (q0.cell 5).trans rfl
  have y5 := q0.frozen 5
  have g6 : w2.cell? ⟨w.heap.size, 6, none⟩ = some (.slice none 0 0) := (q0.cell 6).trans rfl
  have y6 := q0.frozen 6
  clear HC h hr1
  go_wp2_with fail
  have hB := ((((((q0.set 0 (.int .i64 17)).set 1 (.int .i64 0)).set 2 (.int .i64 0)).set 3 (.int .i64 0)).set 4 (.int .i64 0)).set 5 (.int .i64 0)).set 6 (.slice ka kn kc)
  have hS : Stays (fun j => j = w.heap.size) w2 _ := ((((((Stays.cell (.refl _ w2) 0 (.int .i64 17)).cell 1 (.int .i64 0)).cell 2 (.int .i64 0)).cell 3 (.int .i64 0)).cell 4 (.int .i64 0)).cell 5 (.int .i64 0)).cell 6 (.slice ka kn kc)
  obtain ⟨w4, hw4⟩ : ∃ w4, w4 = (((((((w2.setCell { block := w.heap.size, off := 0 } (Value.int IntKind.i64 17)).setCell { block := w.heap.size, off := 1 } (Value.int IntKind.i64 0)).setCell { block := w.heap.size, off := 2 } (Value.int IntKind.i64 0)).setCell { block := w.heap.size, off := 3 } (Value.int IntKind.i64 0)).setCell { block := w.heap.size, off := 4 } (Value.int IntKind.i64 0)).setCell { block := w.heap.size, off := 5 } (Value.int IntKind.i64 0)).setCell { block := w.heap.size, off := 6 } (.slice ka kn kc)) := ⟨_, rfl⟩
  rw [← hw4] at hB hS
  rw [← hw4]
  have hB' : Blk w4 w.heap.size #[.int .i64 17, .int .i64 0, .int .i64 0, .int .i64 0, .int .i64 0, .int .i64 0, .slice ka kn kc] 24 := hB
  clear hw4 hB
  have x0 : w4.cell? ⟨w.heap.size, 0, none⟩ = some (.int .i64 17) := (hB'.cell 0).trans rfl
  have x1 : w4.cell? ⟨w.heap.size, 1, none⟩ = some (.int .i64 0) := (hB'.cell 1).trans rfl
  have x2 : w4.cell? ⟨w.heap.size, 2, none⟩ = some (.int .i64 0) := (hB'.cell 2).trans rfl
  have x3 : w4.cell? ⟨w.heap.size, 3, none⟩ = some (.int .i64 0) := (hB'.cell 3).trans rfl
  have x4 : w4.cell? ⟨w.heap.size, 4, none⟩ = some (.int .i64 0) := (hB'.cell 4).trans rfl
  have x5 : w4.cell? ⟨w.heap.size, 5, none⟩ = some (.int .i64 0) := (hB'.cell 5).trans rfl
  have x6 : w4.cell? ⟨w.heap.size, 6, none⟩ = some (.slice ka kn kc) := (hB'.cell 6).trans rfl
  have hbl : Below w.heap.size w w4 := l2.trans (hS.below l2.size (fun j hj e => by omega))
  have hrow4 : IRow w4 w.heap.size (.slice ka kn kc) l := by
    have h1 := row_stays hrow hS (fun j hj e => by have := hne j hj; omega)
    refine ⟨h1.1, ?_⟩
    rcases h1.2 with h | ⟨g, cap, cur, h2, h3, h4⟩
    · exact .inl h
    · exact .inr ⟨g, cap, cur, h2, by omega, h4⟩
  refine ⟨rfl, .agg #[.int .i64 17, .int .i64 0, .int .i64 0, .int .i64 0, .int .i64 0, .int .i64 0, .slice ka kn kc], ?_, hbl, .slice ka kn kc, rfl, hrow4⟩
  simp [results, Tryz.results46, go_sem, x0, x1, x2, x3, x4, x5, x6]
end Go.Proofs.YtddnmocoaahlfaaGreatDoor
