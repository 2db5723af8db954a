/-
  The contracts of guard: what the function that it calls reports by a panic is returned. Condition: the called function's own contract.
-/
import Derived.Test.YtddnmocoaahlfaaGreatDoorExp
import Derived.Recover
import Derived.Defers
set_option linter.unusedVariables false
set_option linter.unusedSimpArgs false

namespace Go.Proofs.YtddnmocoaahlfaaGreatDoor
open Go.RowKit
theorem cs_same' {w : World} {p : Addr} {u v : Value} (h : w.cell? p = some u) : (w.setCell p v).cell? p = some v := by
  unfold World.cell? World.setCell at *
  cases hh : w.heap[p.block]? with
  | none => rw [hh] at h; cases h
  | some o =>
    rw [hh] at h
    simp only [Array.getElem?_modify, if_true, hh, Option.map_some]
    cases o with
    | cells c T z =>
      by_cases hs : p.spot.isSome = true
      · simp [hs] at h
      · simp only [hs] at h
        have hlt := (Array.getElem?_eq_some_iff.1 h).1
        simp [hs, hlt]
    | _ => cases h
theorem hassert (v : Value) (w : World) : (Instr.typeAssert (.iface 172 v) 20 172 true).run Tryz.prog w = .ok (.tuple #[v, .bool true]) w := by kernel_rfl
set_option maxHeartbeats 1000000 in
set_option maxRecDepth 100000 in
theorem catch_trouble (p : Addr) (x k : Int) (older : List PanicEntry) (w : World) (hc : w.cell? p = some (.int .i64 x)) (hz : w.frozen? p = false) :
    CallsD Tryz.prog 102 #[.pointer (some p)] (.panicking ({ v := .iface 172 (.agg #[.int .i64 k]), recovered := false } :: older)) w fun e u' w' =>
      e = .returned (.tuple #[]) ∧ u' = .panicking ({ v := .iface 172 (.agg #[.int .i64 k]), recovered := true } :: older) ∧ Stays (fun j => j = p.block) w w' ∧ w'.cell? p = some (.int .i64 k) := by
  have hta := hassert
  have hlt := World.block_lt_of_cell? w p hc
  have hcc : (w.alloc (.cells #[.int .i64 k] 172)).cell? p = some (.int .i64 x) := cell_below hc ((Below.refl _ w).alloc (Nat.le_refl _) _)
  have hzz : (w.alloc (.cells #[.int .i64 k] 172)).frozen? p = false := (World.frozen?_of_block (heap_alloc_old w _ hlt)).trans hz
  have hst : Stays (fun j => j = p.block) w ((w.alloc (.cells #[.int .i64 k] 172)).setCell p (.int .i64 k)) := ((Stays.refl (fun j => j = p.block) w).alloc _).set (p := p) (.inl rfl) _
  have hse := cs_same' (v := .int .i64 k) hcc
  refine callsD_of_wpS Tryz.func102 rfl fun c₀ cs hu => ?_
  apply wpS_seq
  apply wpS_region
  simp [wpOpsS, go_sem, recoverD, hu, Tryz.ntmps102, Exit.thenS]
  refine wpS_of_wp ?_
  go_wp2_with fail
  cases c₀
  simp_all [bodyPostS, results, Tryz.results102, hst]
set_option maxHeartbeats 1000000 in
set_option maxRecDepth 100000 in
theorem catch_idle (p : Addr) (w : World) :
    CallsD Tryz.prog 102 #[.pointer (some p)] .returning w fun e u' w' => e = .returned (.tuple #[]) ∧ u' = .returning ∧ w' = w := by
  have hnil : ∀ w : World, (binOp BinOp.eql 20 .nilIface .nilIface).run Tryz.prog w = .ok (.bool true) w := fun _ => by kernel_rfl
  refine callsD_of_wpS Tryz.func102 rfl fun c₀ cs hu => ?_
  apply wpS_seq
  apply wpS_region
  simp [wpOpsS, go_sem, recoverD, hu, Tryz.ntmps102, Exit.thenS]
  refine wpS_of_wp ?_
  go_wp2_with fail
  cases c₀
  simp_all [bodyPostS, results, Tryz.results102]
set_option maxHeartbeats 1000000 in
set_option maxRecDepth 100000 in
theorem guard_ok {g : FuncId} {cap : Array Value} {w : World} {Q : World → Prop} (he : ∀ args w, (callFunc g args).run Tryz.prog w = .ok (.enter g args) w)
    (h : Calls Tryz.prog g cap (w.alloc (.cells #[.int .i64 0] 38)) (fun e w' => e = .returned (.tuple #[]) ∧ Q w'))
    (hQ : ∀ w', Q w' → w'.cell? ⟨w.heap.size, 0, none⟩ = some (.int .i64 0) ∧ w'.frozen? ⟨w.heap.size, 0, none⟩ = false) :
    Calls Tryz.prog 59 #[.func (.func g) #[] cap] w (fun e w' => e = .returned (.int .i64 0) ∧ ∃ w1, Q w1 ∧ w' = w1.setCell ⟨w.heap.size, 0, none⟩ (.int .i64 0)) := by
  have hmf := hmakef
  go_enter_defers Tryz.func59, Tryz.ntmps59
  go_wp2_with fail
  refine h.mono ?_
  rintro e w1 ⟨rfl, q1⟩
  obtain ⟨c1, z1⟩ := hQ w1 q1
  go_wp2_with fail
  refine leaves_cons (f := 102) (args := #[.pointer (some ⟨w.heap.size, 0, none⟩)]) (by simp) (by simp [go_sem]) ?_
  refine (catch_idle ⟨w.heap.size, 0, none⟩ _).mono ?_
  rintro e u' w'' ⟨rfl, rfl, rfl⟩
  have hse := cs_same' (v := .int .i64 0) c1
  simp [Leaves, settle, results, Tryz.results59, go_sem, hse]
  exact ⟨w1, q1, rfl⟩
set_option maxHeartbeats 1000000 in
set_option maxRecDepth 100000 in
theorem guard_err {g : FuncId} {cap : Array Value} {w : World} {k : Int} {Q : World → Prop} (he : ∀ args w, (callFunc g args).run Tryz.prog w = .ok (.enter g args) w)
    (h : Calls Tryz.prog g cap (w.alloc (.cells #[.int .i64 0] 38)) (fun e w' => e = .panicked [Tr k] ∧ Q w'))
    (hQ : ∀ w', Q w' → w'.cell? ⟨w.heap.size, 0, none⟩ = some (.int .i64 0) ∧ w'.frozen? ⟨w.heap.size, 0, none⟩ = false) :
    Calls Tryz.prog 59 #[.func (.func g) #[] cap] w (fun e w' => e = .returned (.int .i64 k) ∧ ∃ w1, Q w1 ∧ Stays (fun j => j = w.heap.size) w1 w') := by
  have hmf := hmakef
  go_enter_defers Tryz.func59, Tryz.ntmps59
  go_wp2_with fail
  refine h.mono ?_
  rintro e w1 ⟨rfl, q1⟩
  obtain ⟨c1, z1⟩ := hQ w1 q1
  refine leaves_cons (f := 102) (args := #[.pointer (some ⟨w.heap.size, 0, none⟩)]) (by simp) (by simp [go_sem]) ?_
  refine (catch_trouble ⟨w.heap.size, 0, none⟩ 0 k [] _ c1 z1).mono ?_
  rintro e u' w'' ⟨rfl, rfl, hs, hc⟩
  simp [Leaves, settle, results, Tryz.results59, go_sem, hc]
  exact ⟨w1, q1, hs⟩
end Go.Proofs.YtddnmocoaahlfaaGreatDoor
