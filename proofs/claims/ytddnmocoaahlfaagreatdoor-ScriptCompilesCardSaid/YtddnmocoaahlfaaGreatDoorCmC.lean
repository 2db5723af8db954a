/-
  The reference's Run: fail, step. No condition but the number of steps.
-/
import Derived.Test.YtddnmocoaahlfaaGreatDoorY40
set_option linter.unusedVariables false
set_option linter.unusedSimpArgs false
set_option maxRecDepth 100000
set_option maxHeartbeats 2000000
namespace Go.Proofs.YtddnmocoaahlfaaGreatDoor
open Go.RowKit Go.Shelf
abbrev rnC (A N V : Value) (st er at' : Int) : Array Value := #[A, N, V, .int .i64 st, .int .i64 er, .int .i64 at']
abbrev rnV (A N V : Value) (st er at' : Int) : Value := .agg (rnC A N V st er at')
def Slc (v : Value) : Prop := ∃ p n c, v = .slice p n c
theorem size130 : (Tryz.prog.info? 130).map (·.size) = some 6 := by kernel_rfl
theorem rn_pre (w : World) (cs : Array Value) : ∃ w2, w2 = (w.alloc (.cells cs 130)).alloc (.cells #[.slice none 0 0, .slice none 0 0, .slice none 0 0, .int .i64 0, .int .i64 0, .int .i64 0] 130) ∧ Below w.heap.size w w2 ∧ Blk w2 w.heap.size cs 130 ∧ Blk w2 (w.heap.size + 1) #[.slice none 0 0, .slice none 0 0, .slice none 0 0, .int .i64 0, .int .i64 0, .int .i64 0] 130 ∧ w2.heap.size = w.heap.size + 2 := by
  have l1 : Below w.heap.size w (w.alloc (.cells cs 130)) := (Below.refl _ _).alloc (Nat.le_refl _) _
  refine ⟨_, rfl, l1.alloc l1.size _, (Blk.new w cs 130).alloc _, Blk.newAt (by simp) _ _, by simp⟩
theorem rn_cells {w : World} {R : Nat} {A N V : Value} {st er at' : Int} (h : Blk w R (rnC A N V st er at') 130) :
    w.cell? ⟨R, 0, none⟩ = some A ∧ w.cell? ⟨R, 1, none⟩ = some N ∧ w.cell? ⟨R, 2, none⟩ = some V ∧ w.cell? ⟨R, 3, none⟩ = some (.int .i64 st) ∧ w.cell? ⟨R, 4, none⟩ = some (.int .i64 er) ∧ w.cell? ⟨R, 5, none⟩ = some (.int .i64 at') :=
  ⟨(h.cell 0).trans rfl, (h.cell 1).trans rfl, (h.cell 2).trans rfl, (h.cell 3).trans rfl, (h.cell 4).trans rfl, (h.cell 5).trans rfl⟩
theorem res135 {tmps : Array Value} {w : World} {D : Nat} {cs : Array Value} (h : Blk w D cs 130) (hs : cs.size = 6) (h2 : tmps.getD 6 undef = .pointer (some ⟨D, 0, none⟩)) :
    (results Tryz.f135 tmps).run Tryz.prog w = .ok (.agg cs) w := by
  have hl := run_loadVar_row w D 130 130 cs (0, 0) _ h Tryz.underlying130 rfl (by rw [size130, hs])
  simp only [results, Tryz.results135, List.mapM_toArray, List.mapM_cons, List.mapM_nil, h2, asAddr, pure_bind, map_eq_pure_bind, bind_assoc, Sem.run_bind, Sem.run_pure, hl, Result.andThen_ok]
  rfl
theorem res132 {tmps : Array Value} {w : World} {D : Nat} {cs : Array Value} (h : Blk w D cs 130) (hs : cs.size = 6) (h2 : tmps.getD 4 undef = .pointer (some ⟨D, 0, none⟩)) :
    (results Tryz.f132 tmps).run Tryz.prog w = .ok (.agg cs) w := by
  have hl := run_loadVar_row w D 130 130 cs (0, 0) _ h Tryz.underlying130 rfl (by rw [size130, hs])
  simp only [results, Tryz.results132, List.mapM_toArray, List.mapM_cons, List.mapM_nil, h2, asAddr, pure_bind, map_eq_pure_bind, bind_assoc, Sem.run_bind, Sem.run_pure, hl, Result.andThen_ok]
  rfl
theorem res134 {tmps : Array Value} {w : World} {D : Nat} {cs : Array Value} (h : Blk w D cs 130) (hs : cs.size = 6) (h2 : tmps.getD 6 undef = .pointer (some ⟨D, 0, none⟩)) :
    (results Tryz.f134 tmps).run Tryz.prog w = .ok (.agg cs) w := by
  have hl := run_loadVar_row w D 130 130 cs (0, 0) _ h Tryz.underlying130 rfl (by rw [size130, hs])
  simp only [results, Tryz.results134, List.mapM_toArray, List.mapM_cons, List.mapM_nil, h2, asAddr, pure_bind, map_eq_pure_bind, bind_assoc, Sem.run_bind, Sem.run_pure, hl, Result.andThen_ok]
  rfl
theorem res133 {tmps : Array Value} {w : World} {D : Nat} {cs : Array Value} {v : Value} (h : Blk w D cs 130) (hs : cs.size = 6) (h2 : tmps.getD 6 undef = .pointer (some ⟨D, 0, none⟩)) (h3 : tmps.getD 7 undef = v) :
    (results Tryz.f133 tmps).run Tryz.prog w = .ok (.tuple #[.agg cs, v]) w := by
  have hl := run_loadVar_row w D 130 130 cs (0, 0) _ h Tryz.underlying130 rfl (by rw [size130, hs])
  simp only [results, Tryz.results133, List.mapM_toArray, List.mapM_cons, List.mapM_nil, h2, h3, asAddr, pure_bind, map_eq_pure_bind, bind_assoc, Sem.run_bind, Sem.run_pure, hl, Result.andThen_ok]
  rfl
theorem rfail_any (w : World) {A N V : Value} (hA : Slc A) (hN : Slc N) (hV : Slc V) (st er at0 e k : Int) : Calls Tryz.prog 135 #[rnV A N V st er at0, .int .i64 e, .int .i64 k] w (fun x w' => Below w.heap.size w w' ∧ x = .returned (rnV A N V st e k)) := by
  obtain ⟨a1, a2, a3, rfl⟩ := hA
  obtain ⟨n1, n2, n3, rfl⟩ := hN
  obtain ⟨v1, v2, v3, rfl⟩ := hV
  go_enter Tryz.func135, Tryz.ntmps135
  go_wp2_with fail
  exact ⟨rfl, _, res135 (Blk.newAt (by simp) _ _) rfl rfl, ((Below.refl _ w).alloc (Nat.le_refl _) _).alloc (by simp) _, rfl⟩
theorem rstep_any (w : World) {A N V : Value} (hA : Slc A) (hN : Slc N) (hV : Slc V) {st : Nat} (hst : st ≤ 16384) (er at0 k : Int) : Calls Tryz.prog 132 #[rnV A N V st er at0, .int .i64 k] w (fun x w' => Below w.heap.size w w' ∧ x = .returned (if st = 16384 then rnV A N V st 5 k else rnV A N V (st + 1 : Nat) er at0)) := by
  have hf := fun W => rfail_any W hA hN hV st er at0 5 k
  obtain ⟨a1, a2, a3, rfl⟩ := hA
  obtain ⟨n1, n2, n3, rfl⟩ := hN
  obtain ⟨v1, v2, v3, rfl⟩ := hV
  obtain ⟨w2, hw2, l2, B1, B2, z2⟩ := rn_pre w (rnC (.slice a1 a2 a3) (.slice n1 n2 n3) (.slice v1 v2 v3) st er at0)
  have HF := Lib.hid (hf w2)
  have HW := Lib.hid hw2
  obtain ⟨y0, y1, y2, y3, y4, y5⟩ := rn_cells B1
  clear hf hw2
  by_cases h : st = 16384
  · rw [if_pos h]
    have d : ((st : Int) == 16384) = true := by simp [h]
    clear h
    go_enter Tryz.func132, Tryz.ntmps132
    go_upto_region 1 with fail
    rw [← HW.out]
    go_wp2_with fail
    refine HF.out.mono ?_
    rintro x w3 ⟨b3, rfl⟩
    have l3 := l2.trans (b3.mono l2.size)
    have B3 := B2.below b3
    clear y0 y1 y2 y3 y4 y5
    go_wp2_with (refine wpList_unit (o := ⟨none, Op.store 130 (.tmp 4) _, _, _, _, _⟩) rfl rfl (Instr.storeAt 130 _ _) rfl (blk_store (c' := rnC (.slice a1 a2 a3) (.slice n1 n2 n3) (.slice v1 v2 v3) st 5 k) B3 size130 rfl rfl) ?_)
    exact ⟨rfl, _, res132 (setRow_heap w3 (w.heap.size + 1) _ (rnC (.slice a1 a2 a3) (.slice n1 n2 n3) (.slice v1 v2 v3) st 5 k) 130 B3) rfl rfl, l3.trans ((setRow_stays _ _ _).below l3.size (fun j hj e => by have e' : j = w.heap.size + 1 := e; omega)), rfl⟩
  · rw [if_neg h]
    have d : ((st : Int) == 16384) = false := by simp; omega
    have hlt : st < 16384 := by omega
    clear h
    go_enter Tryz.func132, Tryz.ntmps132
    go_wp2_with fail
    exact ⟨rfl, _, res132 (Blk.newAt (by simp) _ _) rfl rfl, ((Below.refl _ w).alloc (Nat.le_refl _) _).alloc (by simp) _, rfl⟩
end Go.Proofs.YtddnmocoaahlfaaGreatDoor
