/-
  What a statement of a script is in the program's memory: its block, the rows of its expressions and statements.
  The contracts of exprs, named, simple. Conditions: the rows of words are of at most 70000 words of at most 65536 bytes; the variable of the range error holds an error or none.
-/
import Derived.Test.YtddnmocoaahlfaaGreatDoorY37
import Derived.Deep.AppendLies
import Derived.Test.YtddnmocoaahlfaaGreatDoorY27
set_option linter.unusedVariables false
set_option linter.unusedSimpArgs false
namespace Go.Proofs.YtddnmocoaahlfaaGreatDoor
open Go.RowKit
theorem row_stays {M : Nat → Prop} {w w' : World} {b : Nat} {e : TypeId} {size : Nat} {v : Value} {n : Nat} {xs : List Value} (h : w.ownsRow b e size v n xs) (hb : Stays M w w') (hm : ∀ k, v.ownBlock = some k → ¬ M k) : w'.ownsRow b e size v n xs := by
  refine ⟨h.1, ?_⟩
  rcases h.2 with hn | ⟨g, cap, cur, rfl, hg0, hgg, rest⟩
  · exact .inl hn
  · exact .inr ⟨g, cap, cur, rfl, hg0, (hb.block g (Array.getElem?_eq_some_iff.1 hgg).1 (hm g rfl)).trans hgg, rest⟩
theorem row_keep {w w' : World} {b : Nat} {e : TypeId} {size : Nat} {v : Value} {n : Nat} {xs : List Value} (h : w.ownsRow b e size v n xs) (hm : ∀ k, v.ownBlock = some k → w'.heap[k]? = w.heap[k]?) : w'.ownsRow b e size v n xs := by
  refine ⟨h.1, ?_⟩
  rcases h.2 with hn | ⟨g, cap, cur, rfl, hg0, hgg, rest⟩
  · exact .inl hn
  · exact .inr ⟨g, cap, cur, rfl, hg0, (hm g rfl).trans hgg, rest⟩
theorem Stays.grown {M : Nat → Prop} {a w w' : World} {row : Option Nat} (h : Stays M a w) (hg : w.grownBy w' row) (hr : ∀ k, row = some k → M k ∨ a.heap.size ≤ k) : Stays M a w' :=
  ⟨hg.os.trans h.os, hg.tape.trans h.tape, hg.output.trans h.output, Nat.le_trans h.size hg.size, fun k hk hn => by
    rw [hg.block k (Nat.lt_of_lt_of_le hk h.size) (fun e => by
      rcases hr k e.symm with h1 | h1
      · exact hn h1
      · omega)]
    exact h.block k hk hn⟩
theorem grown_stays {w w' : World} {row : Option Nat} (hg : w.grownBy w' row) : Stays (fun k => row = some k) w w' :=
  ⟨hg.os, hg.tape, hg.output, hg.size, fun k hk hn => hg.block k hk (fun e => hn e.symm)⟩
abbrev fval (f : FuncId × Array Value) : Value := .func (.func f.1) #[] f.2
abbrev ptr (p : Nat) : Value := .pointer (some ⟨p, 0, none⟩)
def ExAll (w : World) (F : Nat → Prop) : List (FuncId × Array Value) → List Ex → Prop
  | [], xs => xs = []
  | f :: fs, xs => ∃ x xs', xs = x :: xs' ∧ ExC F w f.1 f.2 x ∧ ExAll w F fs xs'
theorem ExAll.len {w : World} {F : Nat → Prop} : ∀ {fs : List (FuncId × Array Value)} {xs : List Ex}, ExAll w F fs xs → xs.length = fs.length
  | [], xs, h => by unfold ExAll at h; subst h; rfl
  | f :: fs, xs, h => by unfold ExAll at h; obtain ⟨x, xs', rfl, _, h2⟩ := h; simp [h2.len]
theorem ExAll.keep {w w' : World} {F : Nat → Prop} (hs : w.heap.size ≤ w'.heap.size) (hF : ∀ k, F k → w'.heap[k]? = w.heap[k]?) : ∀ {fs : List (FuncId × Array Value)} {xs : List Ex}, ExAll w F fs xs → ExAll w' F fs xs
  | [], xs, h => by unfold ExAll at h ⊢; exact h
  | f :: fs, xs, h => by
    unfold ExAll at h ⊢
    obtain ⟨x, xs', rfl, h1, h2⟩ := h
    exact ⟨x, xs', rfl, h1.keep hs hF, h2.keep hs hF⟩
theorem ExAll.wider {w : World} {F F' : Nat → Prop} (hF : ∀ k, F k → F' k) (hl : ∀ k, F' k → k < w.heap.size) : ∀ {fs : List (FuncId × Array Value)} {xs : List Ex}, ExAll w F fs xs → ExAll w F' fs xs
  | [], xs, h => by unfold ExAll at h ⊢; exact h
  | f :: fs, xs, h => by
    unfold ExAll at h ⊢
    obtain ⟨x, xs', rfl, h1, h2⟩ := h
    exact ⟨x, xs', rfl, h1.wider hF hl, h2.wider hF hl⟩
theorem ExAll.snoc {w : World} {F : Nat → Prop} {f : FuncId × Array Value} {x : Ex} (hx : ExC F w f.1 f.2 x) : ∀ {fs : List (FuncId × Array Value)} {xs : List Ex}, ExAll w F fs xs → ExAll w F (fs ++ [f]) (xs ++ [x])
  | [], xs, h => by unfold ExAll at h; subst h; exact ⟨x, [], rfl, hx, rfl⟩
  | g :: fs, xs, h => by
    unfold ExAll at h
    obtain ⟨y, xs', rfl, h1, h2⟩ := h
    exact ⟨y, xs' ++ [x], rfl, h1, h2.snoc hx⟩
theorem ExAll.get {w : World} {F : Nat → Prop} : ∀ {fs : List (FuncId × Array Value)} {xs : List Ex}, ExAll w F fs xs → ∀ (i : Nat) (hi : i < fs.length), ∃ x, xs[i]? = some x ∧ ExC F w (fs[i]).1 (fs[i]).2 x
  | [], _, _, i, hi => by simp at hi
  | f :: fs, xs, h, i, hi => by
    unfold ExAll at h
    obtain ⟨x, xs', rfl, h1, h2⟩ := h
    cases i with
    | zero => exact ⟨x, rfl, h1⟩
    | succ i =>
      obtain ⟨y, hy, hy2⟩ := h2.get i (by simpa using hi)
      exact ⟨y, by simpa using hy, hy2⟩
def ArgsAt (w : World) (F : Nat → Prop) (v : Value) (xs : List Ex) : Prop := ∃ fs, w.ownsRow 0 133 1 v fs.length (fs.map fval) ∧ (∀ k, v.ownBlock = some k → F k) ∧ ExAll w F fs xs
theorem ArgsAt.keep {w w' : World} {F : Nat → Prop} (hs : w.heap.size ≤ w'.heap.size) (hF : ∀ k, F k → w'.heap[k]? = w.heap[k]?) {v : Value} {xs : List Ex} : ArgsAt w F v xs → ArgsAt w' F v xs
  | ⟨fs, h1, h2, h3⟩ => ⟨fs, row_keep h1 (fun k hk => hF k (h2 k hk)), h2, h3.keep hs hF⟩
theorem ArgsAt.wider {w : World} {F F' : Nat → Prop} (hF : ∀ k, F k → F' k) (hl : ∀ k, F' k → k < w.heap.size) {v : Value} {xs : List Ex} : ArgsAt w F v xs → ArgsAt w F' v xs
  | ⟨fs, h1, h2, h3⟩ => ⟨fs, h1, fun k hk => hF k (h2 k hk), h3.wider hF hl⟩
abbrev PRow (w : World) (v : Value) (ps : List Nat) : Prop := w.ownsRow 0 168 1 v ps.length (ps.map ptr)
def SBlk (w : World) (p line : Nat) (kind name : List UInt8) (va vb vo : Value) (ho : Bool) : Prop :=
  ∃ k n : ByteArray, txt k = kind ∧ txt n = name ∧ k.size ≤ 65536 ∧ n.size ≤ 65536 ∧ line ≤ 65537 ∧ Blk w p #[.int .i64 line, .string k, .string n, va, vb, vo, .bool ho] 112
theorem SBlk.keep {w w' : World} {p line : Nat} {kind name : List UInt8} {va vb vo : Value} {ho : Bool} (h : SBlk w p line kind name va vb vo ho) (hF : w'.heap[p]? = w.heap[p]?) : SBlk w' p line kind name va vb vo ho := by
  obtain ⟨k, n, h1, h2, h3, h4, h5, h6⟩ := h
  exact ⟨k, n, h1, h2, h3, h4, h5, hF.trans h6⟩
def ArgOk (kind : List UInt8) (n : Nat) : Prop := if kind = sLet then n = 1 else if kind = sFor then n = 2 else if kind = sIf then n = 1 else n ≤ 16 ∧ (actOfL kind ≠ 17 → n ≤ 5)
mutual
def StmAt (w : World) (F : Nat → Prop) (p : Nat) : Stm → Prop
  | .mk line kind name args body other => (F p ∧ ArgOk kind args.length) ∧ ∃ va vb vo ho psb pso, SBlk w p line kind name va vb vo ho ∧ ArgsAt w F va args ∧
      (PRow w vb psb ∧ (∀ k, vb.ownBlock = some k → F k)) ∧ (PRow w vo pso ∧ (∀ k, vo.ownBlock = some k → F k)) ∧ StmsAt w F psb body ∧ StmsAt w F pso other
def StmsAt (w : World) (F : Nat → Prop) (ps : List Nat) : List Stm → Prop
  | [] => ps = []
  | s :: ss => ∃ p ps', ps = p :: ps' ∧ StmAt w F p s ∧ StmsAt w F ps' ss
end
mutual
theorem StmAt.keep {w w' : World} {F : Nat → Prop} (hs : w.heap.size ≤ w'.heap.size) (hF : ∀ k, F k → w'.heap[k]? = w.heap[k]?) : ∀ (s : Stm) (p : Nat), StmAt w F p s → StmAt w' F p s
  | .mk line kind name args body other, p, h => by
    unfold StmAt at h ⊢
    obtain ⟨hp, va, vb, vo, ho, psb, pso, h1, h2, ⟨h3, h4⟩, ⟨h5, h6⟩, h7, h8⟩ := h
    exact ⟨hp, va, vb, vo, ho, psb, pso, h1.keep (hF p hp.1), h2.keep hs hF, ⟨row_keep h3 (fun k hk => hF k (h4 k hk)), h4⟩, ⟨row_keep h5 (fun k hk => hF k (h6 k hk)), h6⟩, StmsAt.keep hs hF body psb h7, StmsAt.keep hs hF other pso h8⟩
theorem StmsAt.keep {w w' : World} {F : Nat → Prop} (hs : w.heap.size ≤ w'.heap.size) (hF : ∀ k, F k → w'.heap[k]? = w.heap[k]?) : ∀ (ss : List Stm) (ps : List Nat), StmsAt w F ps ss → StmsAt w' F ps ss
  | [], ps, h => by unfold StmsAt at h ⊢; exact h
  | s :: ss, ps, h => by
    unfold StmsAt at h ⊢
    obtain ⟨p, ps', rfl, h1, h2⟩ := h
    exact ⟨p, ps', rfl, StmAt.keep hs hF s p h1, StmsAt.keep hs hF ss ps' h2⟩
end
mutual
theorem StmAt.wider {w : World} {F F' : Nat → Prop} (hF : ∀ k, F k → F' k) (hl : ∀ k, F' k → k < w.heap.size) : ∀ (s : Stm) (p : Nat), StmAt w F p s → StmAt w F' p s
  | .mk line kind name args body other, p, h => by
    unfold StmAt at h ⊢
    obtain ⟨hp, va, vb, vo, ho, psb, pso, h1, h2, ⟨h3, h4⟩, ⟨h5, h6⟩, h7, h8⟩ := h
    exact ⟨⟨hF p hp.1, hp.2⟩, va, vb, vo, ho, psb, pso, h1, h2.wider hF hl, ⟨h3, fun k hk => hF k (h4 k hk)⟩, ⟨h5, fun k hk => hF k (h6 k hk)⟩, StmsAt.wider hF hl body psb h7, StmsAt.wider hF hl other pso h8⟩
theorem StmsAt.wider {w : World} {F F' : Nat → Prop} (hF : ∀ k, F k → F' k) (hl : ∀ k, F' k → k < w.heap.size) : ∀ (ss : List Stm) (ps : List Nat), StmsAt w F ps ss → StmsAt w F' ps ss
  | [], ps, h => by unfold StmsAt at h ⊢; exact h
  | s :: ss, ps, h => by
    unfold StmsAt at h ⊢
    obtain ⟨p, ps', rfl, h1, h2⟩ := h
    exact ⟨p, ps', rfl, StmAt.wider hF hl s p h1, StmsAt.wider hF hl ss ps' h2⟩
end
theorem StmsAt.snoc {w : World} {F : Nat → Prop} {p : Nat} {s : Stm} (hx : StmAt w F p s) : ∀ {ss : List Stm} {ps : List Nat}, StmsAt w F ps ss → StmsAt w F (ps ++ [p]) (ss ++ [s])
  | [], ps, h => by unfold StmsAt at h; subst h; simp only [List.nil_append]; unfold StmsAt; exact ⟨p, [], rfl, hx, by unfold StmsAt; rfl⟩
  | t :: ss, ps, h => by
    unfold StmsAt at h
    obtain ⟨q, ps', rfl, h1, h2⟩ := h
    simp only [List.cons_append]
    unfold StmsAt
    exact ⟨q, ps' ++ [p], rfl, h1, h2.snoc hx⟩
theorem StmsAt.len {w : World} {F : Nat → Prop} : ∀ {ss : List Stm} {ps : List Nat}, StmsAt w F ps ss → ps.length = ss.length
  | [], ps, h => by unfold StmsAt at h; subst h; rfl
  | t :: ss, ps, h => by
    unfold StmsAt at h
    obtain ⟨q, ps', rfl, h1, h2⟩ := h
    simp [h2.len]
end Go.Proofs.YtddnmocoaahlfaaGreatDoor
namespace Go.Proofs.YtddnmocoaahlfaaGreatDoor
open Go.RowKit
def SRow (w : World) (v : Value) (ss : List ByteArray) : Prop :=
  (ss = [] ∧ ∃ a c, v = .slice a 0 c) ∨ (ss ≠ [] ∧ ∃ L o c, v = .slice (some ⟨L, o, none⟩) ss.length c ∧ ss.length ≤ c ∧ (∃ cur z, w.heap[L]? = some (.cells cur 9 z)) ∧ ∀ j (h : j < ss.length), w.cell? ⟨L, o + j, none⟩ = some (.string ss[j]))
theorem SRow.below {w w' : World} {v : Value} {ss : List ByteArray} (h : SRow w v ss) (b : Below w.heap.size w w') : SRow w' v ss := by
  rcases h with h | ⟨h0, L, o, c, h1, h2, ⟨cur, z, hb⟩, h3⟩
  · exact .inl h
  · exact .inr ⟨h0, L, o, c, h1, h2, ⟨cur, z, (b.block L (Array.getElem?_eq_some_iff.1 hb).1).trans hb⟩, fun j hj => cell_below (h3 j hj) b⟩
theorem SRow.stays {M : Nat → Prop} {w w' : World} {v : Value} {ss : List ByteArray} (h : SRow w v ss) (b : Stays M w w') (hM : ∀ L cur z, w.heap[L]? = some (.cells cur 9 z) → ¬ M L) : SRow w' v ss := by
  rcases h with h | ⟨h0, L, o, c, h1, h2, ⟨cur, z, hb⟩, h3⟩
  · exact .inl h
  · have e : w'.heap[L]? = w.heap[L]? := b.block L (Array.getElem?_eq_some_iff.1 hb).1 (hM L cur z hb)
    exact .inr ⟨h0, L, o, c, h1, h2, ⟨cur, z, e.trans hb⟩, fun j hj => (World.cell?_of_block (a := ⟨L, o + j, none⟩) e).trans (h3 j hj)⟩
theorem SRow.cons {w : World} {L o c : Nat} {s : ByteArray} {st : List ByteArray} (h : SRow w (.slice (some ⟨L, o, none⟩) (st.length + 1) c) (s :: st)) (hst : st ≠ []) : SRow w (.slice (some ⟨L, o + 1, none⟩) st.length (c - 1)) st := by
  rcases h with ⟨h0, _⟩ | ⟨h0, L', o', c', h1, h2, h3, h4⟩
  · cases h0
  · injection h1 with e1 e2 e3
    injection e1 with e1
    injection e1 with e1 e4
    subst e1 e4 e3
    refine .inr ⟨hst, L, o + 1, c - 1, rfl, by simp at h2; omega, h3, fun j hj => ?_⟩
    have := h4 (j + 1) (by simp; omega)
    rw [show o + 1 + j = o + (j + 1) by omega]
    exact this
def Words (ss : List ByteArray) (l : List (List UInt8)) : Prop := ss.map txt = l ∧ (∀ s ∈ ss, s.size ≤ 65536) ∧ ss.length ≤ 70000
theorem Words.len {ss : List ByteArray} {l : List (List UInt8)} (h : Words ss l) : l.length = ss.length := by rw [← h.1]; simp
theorem Words.get {ss : List ByteArray} {l : List (List UInt8)} (h : Words ss l) {k : Nat} (hk : k < ss.length) : l[k]? = some (txt ss[k]) := by rw [← h.1]; simp [hk]
def exprsFrom (acc : List Ex) (r : List (List UInt8)) : Option (List Ex) := (exprsL r).map (acc ++ ·)
theorem exprsFrom_start (r : List (List UInt8)) : exprsFrom [] r = exprsL r := by unfold exprsFrom; cases exprsL r <;> simp
theorem exprsFrom_next {l : List (List UInt8)} {k : Nat} {t : List UInt8} (hk : l[k]? = some t) {x : Ex} (hx : parseE t = some x) (acc : List Ex) : exprsFrom acc (l.drop k) = exprsFrom (acc ++ [x]) (l.drop (k + 1)) := by
  obtain ⟨hlt, rfl⟩ := List.getElem?_eq_some_iff.1 hk
  rw [List.drop_eq_getElem_cons hlt]
  unfold exprsFrom
  simp only [exprsL, hx]
  cases exprsL (l.drop (k + 1)) <;> simp
theorem exprsFrom_stop {l : List (List UInt8)} {k : Nat} {t : List UInt8} (hk : l[k]? = some t) (hx : parseE t = none) (acc : List Ex) : exprsFrom acc (l.drop k) = none := by
  obtain ⟨hlt, rfl⟩ := List.getElem?_eq_some_iff.1 hk
  rw [List.drop_eq_getElem_cons hlt]
  unfold exprsFrom
  simp only [exprsL, hx]
  rfl
theorem exprsFrom_end (acc : List Ex) {l : List (List UInt8)} {k : Nat} (hk : l.length ≤ k) : exprsFrom acc (l.drop k) = some acc := by rw [List.drop_of_length_le hk]; simp [exprsFrom, exprsL]
def RetXs (w : World) (r : Option (List Ex)) (e : Ending) (w' : World) : Prop := Below w.heap.size w w' ∧ match r with
  | none => e = .returned (.tuple #[.slice none 0 0, .bool false])
  | some xs => ∃ v, e = .returned (.tuple #[v, .bool true]) ∧ ArgsAt w' (New w w') v xs
theorem info133 : (Tryz.prog.info? 133).map (fun i => (i.zero, i.size, i.bytes)) = some (some .nilFunc, 1, 8) := by kernel_rfl
theorem one_new' (w : World) (u : Value) (T : TypeId) : ∀ j x, [u][j]? = some x → (w.alloc (.cells #[u] T)).cell? ((⟨w.heap.size, 0, none⟩ : Addr).add j) = some x := World.news_of_block (heap_alloc_new w _)
def NotRow (w wr : World) (v : Value) (j : Nat) : Prop := New w wr j ∧ v.ownBlock ≠ some j
theorem row_next {w wr w1 w2 : World} {v4 : Value} {u : Value} {T : TypeId} {g2 : Nat} {c2 n : Nat} {fs : List (FuncId × Array Value)} {xs : List Ex} {f : FuncId × Array Value} {x : Ex} (hall : ExAll wr (NotRow w wr v4) fs xs) (hown : ∀ j, v4.ownBlock = some j → j < wr.heap.size)
    (hbl : Below w.heap.size w wr) (b1 : Below wr.heap.size wr w1) (hx : ExC (New wr w1) w1 f.1 f.2 x) (hgr : (w1.alloc (.cells #[u] T)).grownBy w2 v4.ownBlock) (hat : v4.ownBlock = some g2 ∨ g2 = w1.heap.size + 1) :
    ExAll w2 (NotRow w w2 (.slice (some ⟨g2, 0, none⟩) n c2)) (fs ++ [f]) (xs ++ [x]) := by
  have hs1 : w1.heap.size + 1 ≤ w2.heap.size := by have := hgr.size; simpa using this
  have hs0 := b1.size
  have hsw := hbl.size
  have keep1 : ∀ j, j < w1.heap.size → v4.ownBlock ≠ some j → w2.heap[j]? = w1.heap[j]? := fun j hj hne =>
    (hgr.block j (by simp; omega) (fun e => hne e.symm)).trans (heap_alloc_old w1 _ hj)
  have h1 := hall.keep (w' := w1) b1.size (fun j hj => b1.block j hj.1.2)
  have h2 := h1.keep (w' := w2) (by omega) (fun j hj => keep1 j (Nat.lt_of_lt_of_le hj.1.2 hs0) hj.2)
  have k1 := hx.keep (w' := w2) (by omega) (fun j hj => keep1 j hj.2 (fun e => by have := hown j e; have := hj.1; omega))
  have hlim : ∀ j, NotRow w w2 (.slice (some ⟨g2, 0, none⟩) n c2) j → j < w2.heap.size := fun j hj => hj.1.2
  refine ExAll.snoc (k1.wider (fun j hj => ⟨⟨Nat.le_trans hsw hj.1, by have := hj.2; omega⟩, ?_⟩) hlim) (h2.wider (fun j hj => ⟨⟨hj.1.1, by have := hj.1.2; omega⟩, ?_⟩) hlim)
  · intro e
    have e' : g2 = j := by simpa [Value.ownBlock] using e
    rcases hat with h | h
    · have := hown g2 h; have := hj.1; omega
    · have := hj.2; omega
  · intro e
    have e' : g2 = j := by simpa [Value.ownBlock] using e
    rcases hat with h | h
    · exact hj.2 (e' ▸ h)
    · have := hj.1.2; omega
set_option maxRecDepth 100000 in
set_option maxHeartbeats 4000000 in
theorem exprs_any {w : World} {v : Value} {ss : List ByteArray} {l : List (List UInt8)} (hr : SRow w v ss) (hl : Words ss l) (he : ErrR w) : Calls Tryz.prog 161 #[v] w (RetXs w (exprsL l)) := by
  have hlen := hl.len
  have h7 := hl.2.2
  obtain ⟨i0, hi, hz0, hz1, hz2⟩ := info_parts info133
  obtain ⟨res, hres⟩ : ∃ res, res = exprsL l := ⟨_, rfl⟩
  rw [← hres]
  rcases hr with ⟨rfl, a, c, rfl⟩ | ⟨h0, L, o, c, rfl, hc, hblk, hcell⟩
  · have hl0 : l = [] := List.length_eq_zero_iff.1 (by rw [hlen]; rfl)
    subst hl0
    have hr : res = some [] := hres
    have HR := Lib.hid hr
    clear hres hr
    go_enter Tryz.func161, Tryz.ntmps161
    go_wp2_with fail
    refine wp_loop_rounds 1 ?_
    rw [rounds_succ]
    go_wp2_with fail
    go_ret2
    unfold RetXs
    rw [HR.out]
    exact ⟨Below.refl _ _, _, rfl, [], World.ownsRow_nil _ _ _ _, (fun k hk => by cases hk), rfl⟩
  · go_enter Tryz.func161, Tryz.ntmps161
    go_wp2_with fail
    go_loopw [11, 4] (fun t v4 wr => ∃ (k : Nat) (xs : List Ex) (fs : List (FuncId × Array Value)), t = .int .i64 k ∧ k ≤ ss.length ∧ fs.length = k ∧ exprsFrom xs (l.drop k) = res ∧ wr.ownsRow w.heap.size 133 1 v4 fs.length (fs.map fval) ∧ ExAll wr (NotRow w wr v4) fs xs ∧ Below w.heap.size w wr) (fun t v4 wr => ss.length - (intOf t).toNat)
    case atStart => exact ⟨0, [], [], rfl, Nat.zero_le _, rfl, (exprsFrom_start _).trans hres.symm, World.ownsRow_nil _ _ _ _, rfl, Below.refl _ _⟩
    case round =>
      obtain ⟨k, xs, fs, rfl, hk, hfk, hev, hown, hall, hbl⟩ := hrel
      by_cases hlt : k < ss.length
      · have hxk := hl.get hlt
        have hsz := hl.2.1 _ (List.getElem_mem hlt)
        have ck := cell_below (hcell k hlt) hbl
        have HP := parse_any hsz (he.below hbl)
        generalize ss[k] = s at *
        have HE := Lib.hid hev
        clear hev
        cases hv : parseE (txt s) with
        | none =>
          have hr : res = none := by rw [← HE.out, exprsFrom_stop hxk hv]
          have HR := Lib.hid hr
          rw [hv] at HP
          have HH := Lib.hid HP
          clear hr HP hv hxk
          go_wp2_with fail
          refine HH.out.mono ?_
          rintro e w1 ⟨b1, v1, _, rfl⟩
          go_wp2_with fail
          go_ret2
          unfold RetXs
          rw [HR.out]
          exact ⟨hbl.trans (b1.mono hbl.size), rfl⟩
        | some x =>
          rw [hv] at HP
          have HH := Lib.hid HP
          have HX := Lib.hid (exprsFrom_next hxk hv xs)
          clear HP hv hxk
          go_wp2_with fail
          refine HH.out.mono ?_
          rintro e w1 ⟨b1, g, cap, rfl, hx⟩
          have hown1 : w1.ownsRow w.heap.size 133 1 _ fs.length (fs.map fval) := row_keep hown (fun j hj => b1.block j (hown.lt j hj).2)
          have hbl1 := hbl.trans (b1.mono hbl.size)
          go_wp2_with (at_builtin; refine wpList_append_lies _ rfl _ _ 109 rfl w.heap.size 133 i0 .nilFunc 1 8 Tryz.underlying109 hi hz0 hz1 hz2 rfl (by decide) _ _ _ rfl (hown1.alloc _) ⟨w1.heap.size, 0, none⟩ 1 1 [.func (.func g) #[] cap] rfl rfl (one_new' _ _ _) (by simp [Value.oneCell']) (by decide) (by unfold maxLen; omega) (by omega) (by have := hbl1.size; simp; omega) _ rfl ?_; intro g2 cap2 w2 hown2 hgr hat hg2)
          have hbl2 : Below w.heap.size w w2 := (hbl1.alloc hbl1.size _).grown hgr (by have := hbl1.size; simp; omega) (fun j hj => (hown.lt j hj).1)
          have hall2 := row_next (c2 := cap2) (n := k + 1) (f := (g, cap)) hall (fun j hj => (hown.lt j hj).2) hbl b1 hx hgr (hat.imp id (fun h => by rw [h]; simp))
          clear hgr hat
          go_wp2_with fail
          go_roundw
          case rel => exact ⟨k + 1, xs ++ [x], fs ++ [(g, cap)], by go_num, by omega, by simp [hfk], HX.out.symm.trans HE.out, by rw [hfk] at hown2; simpa [hfk] using hown2, hall2, hbl2⟩
          case measure => simp [intOf]; omega
      · have hkk : k = ss.length := by omega
        have hr : res = some xs := by rw [← hev, exprsFrom_end _ (by omega)]
        have HR := Lib.hid hr
        clear hr hev
        go_wp2_with fail
        go_ret2
        unfold RetXs
        rw [HR.out]
        refine ⟨hbl, _, rfl, fs, ⟨hown.1, ?_⟩, fun j hj => hown.lt j hj, hall.wider (fun j hj => hj.1) (fun j hj => hj.2)⟩
        rcases hown.2 with h | ⟨g, cap, cur, h1, h2, h3⟩
        · exact .inl h
        · exact .inr ⟨g, cap, cur, h1, Nat.zero_le _, h3⟩
end Go.Proofs.YtddnmocoaahlfaaGreatDoor
