/-
  Steps for arrays that are written out: built, laid into a new block, in one step each. No condition.
-/
import Derived.Test.YtddnmocoaahlfaaGreatDoorBase
import Derived.Deep.WholeRow
set_option linter.unusedVariables false
set_option linter.unusedSimpArgs false
namespace Go.Proofs.YtddnmocoaahlfaaGreatDoor
open Go.RowKit

theorem wpList_val {P : Program} {w w' : World} {ops : Array Oper} {rest : List Oper} {o : Oper} {a : Act} {Q : Exit → Act → World → Prop} (hgd : o.guard = none) (S : Sem Value) (hex : execOp a.eval o = (do pure (.value (← S))))
    (v : Value) (hrun : S.run P w = .ok v w') (h : wpList P ops Q rest (a.put o.dst v) w') : wpList P ops Q (o :: rest) a w := by
  refine wpList_plain hgd fun K hK => ?_
  unfold Oper.wp
  simp only [hex, Sem.run_bind, Sem.run_pure, hrun, Result.andThen_ok]
  exact hK _ _ h
theorem wpList_unit {P : Program} {w w' : World} {ops : Array Oper} {rest : List Oper} {o : Oper} {a : Act} {Q : Exit → Act → World → Prop} (hgd : o.guard = none) (hd : o.dst = none) (S : Sem Unit) (hex : execOp a.eval o = (do S; pure .skip))
    (hrun : S.run P w = .ok () w') (h : wpList P ops Q rest a w') : wpList P ops Q (o :: rest) a w := by
  refine wpList_plain hgd fun K hK => ?_
  unfold Oper.wp
  simp only [hex, Sem.run_bind, Sem.run_pure, hrun, Result.andThen_ok]
  refine hK _ _ ?_
  rw [hd]
  exact h
def aWords : Array Value := #[.string ⟨#[]⟩, .string ⟨#[109, 111, 117, 110, 116]⟩, .string ⟨#[112, 114, 105, 110, 116]⟩, .string ⟨#[116, 105, 99, 107]⟩, .string ⟨#[115, 112, 111, 105, 108]⟩, .string ⟨#[114, 101, 112, 97, 105, 114]⟩, .string ⟨#[105, 110, 115, 112, 101, 99, 116]⟩, .string ⟨#[99, 117, 116]⟩, .string ⟨#[98, 101, 103, 105, 110]⟩, .string ⟨#[108, 111, 111, 107]⟩, .string ⟨#[109, 111, 118, 101]⟩, .string ⟨#[99, 111, 109, 109, 105, 116]⟩, .string ⟨#[97, 98, 111, 114, 116]⟩, .string ⟨#[100, 101, 115, 116, 114, 111, 121]⟩, .string ⟨#[97, 117, 100, 105, 116]⟩, .string ⟨#[115, 97, 118, 101]⟩, .string ⟨#[99, 104, 101, 99, 107]⟩, .string ⟨#[99, 114, 97, 115, 104]⟩]
def aWordsZ : Array Value := #[.string ⟨#[]⟩, .string ⟨#[]⟩, .string ⟨#[]⟩, .string ⟨#[]⟩, .string ⟨#[]⟩, .string ⟨#[]⟩, .string ⟨#[]⟩, .string ⟨#[]⟩, .string ⟨#[]⟩, .string ⟨#[]⟩, .string ⟨#[]⟩, .string ⟨#[]⟩, .string ⟨#[]⟩, .string ⟨#[]⟩, .string ⟨#[]⟩, .string ⟨#[]⟩, .string ⟨#[]⟩, .string ⟨#[]⟩]
theorem aWords_build (w : World) : (Instr.build 165 #[(0, .string ⟨#[]⟩), (1, .string ⟨#[109, 111, 117, 110, 116]⟩), (2, .string ⟨#[112, 114, 105, 110, 116]⟩), (3, .string ⟨#[116, 105, 99, 107]⟩), (4, .string ⟨#[115, 112, 111, 105, 108]⟩), (5, .string ⟨#[114, 101, 112, 97, 105, 114]⟩), (6, .string ⟨#[105, 110, 115, 112, 101, 99, 116]⟩), (7, .string ⟨#[99, 117, 116]⟩), (8, .string ⟨#[98, 101, 103, 105, 110]⟩), (9, .string ⟨#[108, 111, 111, 107]⟩), (10, .string ⟨#[109, 111, 118, 101]⟩), (11, .string ⟨#[99, 111, 109, 109, 105, 116]⟩), (12, .string ⟨#[97, 98, 111, 114, 116]⟩), (13, .string ⟨#[100, 101, 115, 116, 114, 111, 121]⟩), (14, .string ⟨#[97, 117, 100, 105, 116]⟩), (15, .string ⟨#[115, 97, 118, 101]⟩), (16, .string ⟨#[99, 104, 101, 99, 107]⟩), (17, .string ⟨#[99, 114, 97, 115, 104]⟩)]).run Tryz.prog w = .ok (.agg aWords) w := by kernel_rfl
theorem aWords_alloc (w : World) : (Instr.alloc 165 true (.tuple #[])).run Tryz.prog w = .ok (.pointer (some ⟨w.heap.size, 0, none⟩)) (w.alloc (.cells aWordsZ 165)) := by kernel_rfl
theorem aWords_store (w : World) : (Instr.storeAt 165 (.pointer (some ⟨w.heap.size, 0, none⟩)) (.agg aWords)).run Tryz.prog (w.alloc (.cells aWordsZ 165)) = .ok () (w.alloc (.cells aWords 165)) := run_storeAt_new w 165 aWordsZ aWords (by kernel_rfl) rfl (by kernel_rfl)
def aFields : Array Value := #[.int .i64 0, .int .i64 1, .int .i64 2, .int .i64 0, .int .i64 2, .int .i64 2, .int .i64 4, .int .i64 1, .int .i64 0, .int .i64 3, .int .i64 5, .int .i64 1, .int .i64 1, .int .i64 4, .int .i64 3, .int .i64 0, .int .i64 0, .int .i64 0]
def aFieldsZ : Array Value := #[.int .i64 0, .int .i64 0, .int .i64 0, .int .i64 0, .int .i64 0, .int .i64 0, .int .i64 0, .int .i64 0, .int .i64 0, .int .i64 0, .int .i64 0, .int .i64 0, .int .i64 0, .int .i64 0, .int .i64 0, .int .i64 0, .int .i64 0, .int .i64 0]
theorem aFields_build (w : World) : (Instr.build 166 #[(0, .int .i64 0), (1, .int .i64 1), (2, .int .i64 2), (3, .int .i64 0), (4, .int .i64 2), (5, .int .i64 2), (6, .int .i64 4), (7, .int .i64 1), (8, .int .i64 0), (9, .int .i64 3), (10, .int .i64 5), (11, .int .i64 1), (12, .int .i64 1), (13, .int .i64 4), (14, .int .i64 3), (15, .int .i64 0), (16, .int .i64 0), (17, .int .i64 0)]).run Tryz.prog w = .ok (.agg aFields) w := by kernel_rfl
theorem aFields_alloc (w : World) : (Instr.alloc 166 true (.tuple #[])).run Tryz.prog w = .ok (.pointer (some ⟨w.heap.size, 0, none⟩)) (w.alloc (.cells aFieldsZ 166)) := by kernel_rfl
theorem aFields_store (w : World) : (Instr.storeAt 166 (.pointer (some ⟨w.heap.size, 0, none⟩)) (.agg aFields)).run Tryz.prog (w.alloc (.cells aFieldsZ 166)) = .ok () (w.alloc (.cells aFields 166)) := run_storeAt_new w 166 aFieldsZ aFields (by kernel_rfl) rfl (by kernel_rfl)
end Go.Proofs.YtddnmocoaahlfaaGreatDoor
