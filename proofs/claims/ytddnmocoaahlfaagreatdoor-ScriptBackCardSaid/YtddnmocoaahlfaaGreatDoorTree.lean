/-
  What a statement of a script is in the program's memory: its block, the rows of its expressions and statements. No condition.
-/
import Derived.Test.YtddnmocoaahlfaaGreatDoorExp
import Derived.Deep.AppendLies
set_option linter.unusedVariables false
set_option linter.unusedSimpArgs false

namespace Go.Proofs.YtddnmocoaahlfaaGreatDoor
open Go.RowKit
/-- A row of values that its owner may write on. -/
theorem row_stays {M : Nat → Prop} {w w' : World} {b : Nat} {e : TypeId} {size : Nat} {v : Value} {n : Nat} {xs : List Value} (h : w.ownsRow b e size v n xs) (hb : Stays M w w') (hm : ∀ k, v.ownBlock = some k → ¬ M k) : w'.ownsRow b e size v n xs := by
  refine ⟨h.1, ?_⟩
  rcases h.2 with hn | ⟨g, cap, cur, rfl, hg0, hgg, rest⟩
  · exact .inl hn
  · exact .inr ⟨g, cap, cur, rfl, hg0, (hb.block g (Array.getElem?_eq_some_iff.1 hgg).1 (hm g rfl)).trans hgg, rest⟩
theorem row_keep {w w' : World} {b : Nat} {e : TypeId} {size : Nat} {v : Value} {n : Nat} {xs : List Value} (h : w.ownsRow b e size v n xs) (hm : ∀ k, v.ownBlock = some k → w'.heap[k]? = w.heap[k]?) : w'.ownsRow b e size v n xs := by
  refine ⟨h.1, ?_⟩
  rcases h.2 with hn | ⟨g, cap, cur, rfl, hg0, hgg, rest⟩
  · exact .inl hn
  · exact .inr ⟨g, cap, cur, rfl, hg0, (hm g rfl).trans hgg, rest⟩
theorem Stays.grown {M : Nat → Prop} {a w w' : World} {row : Option Nat} (h : Stays M a w) (hg : w.grownBy w' row) (hr : ∀ k, row = some k → M k ∨ a.heap.size ≤ k) : Stays M a w' :=
  ⟨hg.os.trans h.os, hg.tape.trans h.tape, hg.output.trans h.output, Nat.le_trans h.size hg.size, fun k hk hn => by
    rw [hg.block k (Nat.lt_of_lt_of_le hk h.size) (fun e => by
      rcases hr k e.symm with h1 | h1
      · exact hn h1
      · omega)]
    exact h.block k hk hn⟩
theorem grown_stays {w w' : World} {row : Option Nat} (hg : w.grownBy w' row) : Stays (fun k => row = some k) w w' :=
  ⟨hg.os, hg.tape, hg.output, hg.size, fun k hk hn => hg.block k hk (fun e => hn e.symm)⟩
/-- The function value of a function and what it captured. -/
abbrev fval (f : FuncId × Array Value) : Value := .func (.func f.1) #[] f.2
/-- The value of a pointer to a block. -/
abbrev ptr (p : Nat) : Value := .pointer (some ⟨p, 0, none⟩)
/-- Function values, an expression each. -/
def ExAll (w : World) (F : Nat → Prop) : List (FuncId × Array Value) → List Ex → Prop
  | [], xs => xs = []
  | f :: fs, xs => ∃ x xs', xs = x :: xs' ∧ ExC F w f.1 f.2 x ∧ ExAll w F fs xs'
theorem ExAll.len {w : World} {F : Nat → Prop} : ∀ {fs : List (FuncId × Array Value)} {xs : List Ex}, ExAll w F fs xs → xs.length = fs.length
  | [], xs, h => by unfold ExAll at h; subst h; rfl
  | f :: fs, xs, h => by unfold ExAll at h; obtain ⟨x, xs', rfl, _, h2⟩ := h; simp [h2.len]
theorem ExAll.keep {w w' : World} {F : Nat → Prop} (hs : w.heap.size ≤ w'.heap.size) (hF : ∀ k, F k → w'.heap[k]? = w.heap[k]?) : ∀ {fs : List (FuncId × Array Value)} {xs : List Ex}, ExAll w F fs xs → ExAll w' F fs xs
  | [], xs, h => by unfold ExAll at h ⊢; exact h
  | f :: fs, xs, h => by
    unfold ExAll at h ⊢
    obtain ⟨x, xs', rfl, h1, h2⟩ := h
    exact ⟨x, xs', rfl, h1.keep hs hF, h2.keep hs hF⟩
theorem ExAll.wider {w : World} {F F' : Nat → Prop} (hF : ∀ k, F k → F' k) (hl : ∀ k, F' k → k < w.heap.size) : ∀ {fs : List (FuncId × Array Value)} {xs : List Ex}, ExAll w F fs xs → ExAll w F' fs xs
  | [], xs, h => by unfold ExAll at h ⊢; exact h
  | f :: fs, xs, h => by
    unfold ExAll at h ⊢
    obtain ⟨x, xs', rfl, h1, h2⟩ := h
    exact ⟨x, xs', rfl, h1.wider hF hl, h2.wider hF hl⟩
theorem ExAll.snoc {w : World} {F : Nat → Prop} {f : FuncId × Array Value} {x : Ex} (hx : ExC F w f.1 f.2 x) : ∀ {fs : List (FuncId × Array Value)} {xs : List Ex}, ExAll w F fs xs → ExAll w F (fs ++ [f]) (xs ++ [x])
  | [], xs, h => by unfold ExAll at h; subst h; exact ⟨x, [], rfl, hx, rfl⟩
  | g :: fs, xs, h => by
    unfold ExAll at h
    obtain ⟨y, xs', rfl, h1, h2⟩ := h
    exact ⟨y, xs' ++ [x], rfl, h1, h2.snoc hx⟩
theorem ExAll.get {w : World} {F : Nat → Prop} : ∀ {fs : List (FuncId × Array Value)} {xs : List Ex}, ExAll w F fs xs → ∀ (i : Nat) (hi : i < fs.length), ∃ x, xs[i]? = some x ∧ ExC F w (fs[i]).1 (fs[i]).2 x
  | [], _, _, i, hi => by simp at hi
  | f :: fs, xs, h, i, hi => by
    unfold ExAll at h
    obtain ⟨x, xs', rfl, h1, h2⟩ := h
    cases i with
    | zero => exact ⟨x, rfl, h1⟩
    | succ i =>
      obtain ⟨y, hy, hy2⟩ := h2.get i (by simpa using hi)
      exact ⟨y, by simpa using hy, hy2⟩
/-- A row of expressions. -/
def ArgsAt (w : World) (F : Nat → Prop) (v : Value) (xs : List Ex) : Prop := ∃ fs, w.ownsRow 0 133 1 v fs.length (fs.map fval) ∧ (∀ k, v.ownBlock = some k → F k) ∧ ExAll w F fs xs
theorem ArgsAt.keep {w w' : World} {F : Nat → Prop} (hs : w.heap.size ≤ w'.heap.size) (hF : ∀ k, F k → w'.heap[k]? = w.heap[k]?) {v : Value} {xs : List Ex} : ArgsAt w F v xs → ArgsAt w' F v xs
  | ⟨fs, h1, h2, h3⟩ => ⟨fs, row_keep h1 (fun k hk => hF k (h2 k hk)), h2, h3.keep hs hF⟩
theorem ArgsAt.wider {w : World} {F F' : Nat → Prop} (hF : ∀ k, F k → F' k) (hl : ∀ k, F' k → k < w.heap.size) {v : Value} {xs : List Ex} : ArgsAt w F v xs → ArgsAt w F' v xs
  | ⟨fs, h1, h2, h3⟩ => ⟨fs, h1, fun k hk => hF k (h2 k hk), h3.wider hF hl⟩
/-- A row of pointers. -/
abbrev PRow (w : World) (v : Value) (ps : List Nat) : Prop := w.ownsRow 0 168 1 v ps.length (ps.map ptr)
/-- The block of a statement. -/
def SBlk (w : World) (p line : Nat) (kind name : List UInt8) (va vb vo : Value) (ho : Bool) : Prop :=
  ∃ k n : ByteArray, txt k = kind ∧ txt n = name ∧ k.size ≤ 65536 ∧ n.size ≤ 65536 ∧ line ≤ 65537 ∧ Blk w p #[.int .i64 line, .string k, .string n, va, vb, vo, .bool ho] 112
theorem SBlk.keep {w w' : World} {p line : Nat} {kind name : List UInt8} {va vb vo : Value} {ho : Bool} (h : SBlk w p line kind name va vb vo ho) (hF : w'.heap[p]? = w.heap[p]?) : SBlk w' p line kind name va vb vo ho := by
  obtain ⟨k, n, h1, h2, h3, h4, h5, h6⟩ := h
  exact ⟨k, n, h1, h2, h3, h4, h5, hF.trans h6⟩
/-- As many expressions as the word asks. -/
def ArgOk (kind : List UInt8) (n : Nat) : Prop := if kind = sLet then n = 1 else if kind = sFor then n = 2 else if kind = sIf then n = 1 else n ≤ 16 ∧ (actOfL kind ≠ 17 → n ≤ 5)
mutual
/-- A statement that is whole: all it reads lies in F. -/
def StmAt (w : World) (F : Nat → Prop) (p : Nat) : Stm → Prop
  | .mk line kind name args body other => (F p ∧ ArgOk kind args.length) ∧ ∃ va vb vo ho psb pso, SBlk w p line kind name va vb vo ho ∧ ArgsAt w F va args ∧
      (PRow w vb psb ∧ (∀ k, vb.ownBlock = some k → F k)) ∧ (PRow w vo pso ∧ (∀ k, vo.ownBlock = some k → F k)) ∧ StmsAt w F psb body ∧ StmsAt w F pso other
def StmsAt (w : World) (F : Nat → Prop) (ps : List Nat) : List Stm → Prop
  | [] => ps = []
  | s :: ss => ∃ p ps', ps = p :: ps' ∧ StmAt w F p s ∧ StmsAt w F ps' ss
end
mutual
theorem StmAt.keep {w w' : World} {F : Nat → Prop} (hs : w.heap.size ≤ w'.heap.size) (hF : ∀ k, F k → w'.heap[k]? = w.heap[k]?) : ∀ (s : Stm) (p : Nat), StmAt w F p s → StmAt w' F p s
  | .mk line kind name args body other, p, h => by
    unfold StmAt at h ⊢
    obtain ⟨hp, va, vb, vo, ho, psb, pso, h1, h2, ⟨h3, h4⟩, ⟨h5, h6⟩, h7, h8⟩ := h
    exact ⟨hp, va, vb, vo, ho, psb, pso, h1.keep (hF p hp.1), h2.keep hs hF, ⟨row_keep h3 (fun k hk => hF k (h4 k hk)), h4⟩, ⟨row_keep h5 (fun k hk => hF k (h6 k hk)), h6⟩, StmsAt.keep hs hF body psb h7, StmsAt.keep hs hF other pso h8⟩
theorem StmsAt.keep {w w' : World} {F : Nat → Prop} (hs : w.heap.size ≤ w'.heap.size) (hF : ∀ k, F k → w'.heap[k]? = w.heap[k]?) : ∀ (ss : List Stm) (ps : List Nat), StmsAt w F ps ss → StmsAt w' F ps ss
  | [], ps, h => by unfold StmsAt at h ⊢; exact h
  | s :: ss, ps, h => by
    unfold StmsAt at h ⊢
    obtain ⟨p, ps', rfl, h1, h2⟩ := h
    exact ⟨p, ps', rfl, StmAt.keep hs hF s p h1, StmsAt.keep hs hF ss ps' h2⟩
end
mutual
theorem StmAt.wider {w : World} {F F' : Nat → Prop} (hF : ∀ k, F k → F' k) (hl : ∀ k, F' k → k < w.heap.size) : ∀ (s : Stm) (p : Nat), StmAt w F p s → StmAt w F' p s
  | .mk line kind name args body other, p, h => by
    unfold StmAt at h ⊢
    obtain ⟨hp, va, vb, vo, ho, psb, pso, h1, h2, ⟨h3, h4⟩, ⟨h5, h6⟩, h7, h8⟩ := h
    exact ⟨⟨hF p hp.1, hp.2⟩, va, vb, vo, ho, psb, pso, h1, h2.wider hF hl, ⟨h3, fun k hk => hF k (h4 k hk)⟩, ⟨h5, fun k hk => hF k (h6 k hk)⟩, StmsAt.wider hF hl body psb h7, StmsAt.wider hF hl other pso h8⟩
theorem StmsAt.wider {w : World} {F F' : Nat → Prop} (hF : ∀ k, F k → F' k) (hl : ∀ k, F' k → k < w.heap.size) : ∀ (ss : List Stm) (ps : List Nat), StmsAt w F ps ss → StmsAt w F' ps ss
  | [], ps, h => by unfold StmsAt at h ⊢; exact h
  | s :: ss, ps, h => by
    unfold StmsAt at h ⊢
    obtain ⟨p, ps', rfl, h1, h2⟩ := h
    exact ⟨p, ps', rfl, StmAt.wider hF hl s p h1, StmsAt.wider hF hl ss ps' h2⟩
end
theorem StmsAt.snoc {w : World} {F : Nat → Prop} {p : Nat} {s : Stm} (hx : StmAt w F p s) : ∀ {ss : List Stm} {ps : List Nat}, StmsAt w F ps ss → StmsAt w F (ps ++ [p]) (ss ++ [s])
  | [], ps, h => by unfold StmsAt at h; subst h; simp only [List.nil_append]; unfold StmsAt; exact ⟨p, [], rfl, hx, by unfold StmsAt; rfl⟩
  | t :: ss, ps, h => by
    unfold StmsAt at h
    obtain ⟨q, ps', rfl, h1, h2⟩ := h
    simp only [List.cons_append]
    unfold StmsAt
    exact ⟨q, ps' ++ [p], rfl, h1, h2.snoc hx⟩
theorem StmsAt.len {w : World} {F : Nat → Prop} : ∀ {ss : List Stm} {ps : List Nat}, StmsAt w F ps ss → ps.length = ss.length
  | [], ps, h => by unfold StmsAt at h; subst h; rfl
  | t :: ss, ps, h => by
    unfold StmsAt at h
    obtain ⟨q, ps', rfl, h1, h2⟩ := h
    simp [h2.len]
end Go.Proofs.YtddnmocoaahlfaaGreatDoor
