/-
  The machine executes statements. Conditions: the statements lie as the reader leaves them; the table of the kinds of acts is laid.
-/
import Derived.Test.YtddnmocoaahlfaaGreatDoorY38
import Derived.Test.YtddnmocoaahlfaaGreatDoorRunLaw
import Derived.StillTailTactics
import Derived.Deep.RegionHeldLaw
import Derived.Deep.RegionLaw
import Derived.Deep.DeepCutAuto
set_option linter.unusedVariables false
set_option linter.unusedSimpArgs false
namespace Go.Proofs.YtddnmocoaahlfaaGreatDoor
open Go.RowKit Go.Shelf Go.Maps Go.WideMaps
def actsCells : List Act5 → List Value → List Value
  | a :: ac, kv :: kvs => actCells a kv ++ actsCells ac kvs
  | _, _ => []
def KeepAll (w : World) (b0 : Nat) : List Act5 → List Value → Prop
  | [], kvs => kvs = []
  | a :: ac, kvs => ∃ kv kvs', kvs = kv :: kvs' ∧ (IRow w b0 kv a.keep ∧ a.f.length = 5) ∧ KeepAll w b0 ac kvs'
def ActsAt (w : World) (b0 : Nat) (v : Value) (ac : List Act5) : Prop := ∃ kvs, w.ownsRow b0 24 7 v ac.length (actsCells ac kvs) ∧ KeepAll w b0 ac kvs
def RowsKept (w w' : World) : Prop := ∀ (k : Nat) (cur : Array Value) (z : Nat × Nat), (w.heap[k]? = some (.cells cur 24 z) ∨ w.heap[k]? = some (.cells cur 3 z)) → w'.heap[k]? = w.heap[k]?
theorem row_typed {w w' : World} {b : Nat} {e : TypeId} {size : Nat} {v : Value} {n : Nat} {xs : List Value} (h : w.ownsRow b e size v n xs) (hk : ∀ (k : Nat) (cur : Array Value) (z : Nat × Nat), w.heap[k]? = some (.cells cur e z) → w'.heap[k]? = w.heap[k]?) : w'.ownsRow b e size v n xs := by
  refine ⟨h.1, ?_⟩
  rcases h.2 with hn | ⟨g, cap, cur, rfl, hg0, hgg, rest⟩
  · exact .inl hn
  · exact .inr ⟨g, cap, cur, rfl, hg0, (hk g cur _ hgg).trans hgg, rest⟩
theorem KeepAll.typed {w w' : World} {b0 : Nat} (hk : ∀ (k : Nat) (cur : Array Value) (z : Nat × Nat), w.heap[k]? = some (.cells cur 3 z) → w'.heap[k]? = w.heap[k]?) : ∀ {ac : List Act5} {kvs : List Value}, KeepAll w b0 ac kvs → KeepAll w' b0 ac kvs
  | [], kvs, h => h
  | a :: ac, kvs, h => by
    obtain ⟨kv, kvs', rfl, ⟨h1, h5⟩, h2⟩ := h
    exact ⟨kv, kvs', rfl, ⟨row_typed h1 hk, h5⟩, h2.typed hk⟩
theorem ActsAt.typed {w w' : World} {b0 : Nat} {v : Value} {ac : List Act5} (h : ActsAt w b0 v ac) (hk : RowsKept w w') : ActsAt w' b0 v ac := by
  obtain ⟨kvs, h1, h2⟩ := h
  exact ⟨kvs, row_typed h1 (fun k cur z hh => hk k cur z (.inl hh)), h2.typed (fun k cur z hh => hk k cur z (.inr hh))⟩
theorem RowsKept.below {w w' : World} (b : Below w.heap.size w w') : RowsKept w w' := by
  intro k cur z h
  exact b.block k (by rcases h with h | h <;> exact (Array.getElem?_eq_some_iff.1 h).1)
theorem RowsKept.blk {w w' : World} {mb : Nat} {cs : Array Value} {T : TypeId} (h : Blk w mb cs T) (hT : T ≠ 24 ∧ T ≠ 3) (b : Stays (fun k => k = mb) w w') : RowsKept w w' := by
  intro k cur z hh
  refine b.block k (by rcases hh with h | h <;> exact (Array.getElem?_eq_some_iff.1 h).1) (fun e => ?_)
  subst e
  unfold Blk at h
  rw [h] at hh
  rcases hh with hh | hh <;> injection hh with hh <;> injection hh with _ hh <;> simp_all
theorem RowsKept.map {w w' : World} {m n : Nat} {σ : List UInt8 → Option Int} (h : ScN w m n σ) (b : Stays (fun k => k = m) w w') : RowsKept w w' := by
  intro k cur z hh
  refine b.block k (by rcases hh with h | h <;> exact (Array.getElem?_eq_some_iff.1 h).1) (fun e => ?_)
  subst e
  obtain ⟨D, ⟨es, clock, hb, _⟩, _⟩ := h
  rw [hb] at hh
  rcases hh with hh | hh <;> cases hh
def Kept3 (w w' : World) : Prop := ∀ (k : Nat) (cur : Array Value) (T : TypeId) (z : Nat × Nat), T ≠ 24 → T ≠ 121 → w.heap[k]? = some (.cells cur T z) → w'.heap[k]? = w.heap[k]?
theorem Kept3.refl (w : World) : Kept3 w w := fun _ _ _ _ _ _ _ => rfl
theorem Kept3.trans {a b c : World} (h : Kept3 a b) (k : Kept3 b c) : Kept3 a c := fun i cur T z h1 h2 hi => (k i cur T z h1 h2 ((h i cur T z h1 h2 hi).trans hi)).trans (h i cur T z h1 h2 hi)
theorem Kept3.below {w w' : World} (b : Below w.heap.size w w') : Kept3 w w' := fun k cur T z h1 h2 h => b.block k (Array.getElem?_eq_some_iff.1 h).1
theorem Kept3.blk {w w' : World} {mb : Nat} {cs : Array Value} (h : Blk w mb cs 121) (b : Stays (fun k => k = mb) w w') : Kept3 w w' := by
  intro k cur T z h1 h2 hh
  refine b.block k (Array.getElem?_eq_some_iff.1 hh).1 (fun e => ?_)
  have e' : k = mb := e
  subst e'
  unfold Blk at h
  rw [h] at hh
  injection hh with hh
  injection hh with _ hh
  exact h2 hh.symm
theorem Kept3.map {w w' : World} {m n : Nat} {σ : List UInt8 → Option Int} (h : ScN w m n σ) (b : Stays (fun k => k = m) w w') : Kept3 w w' := by
  intro k cur T z h1 h2 hh
  refine b.block k (Array.getElem?_eq_some_iff.1 hh).1 (fun e => ?_)
  have e' : k = m := e
  subst e'
  obtain ⟨D, ⟨es, clock, hb, _⟩, _⟩ := h
  rw [hb] at hh
  cases hh
def MSt (b0 mb m : Nat) (w : World) (line : Int) (s : Ran) : Prop := ∃ va, MBlk w mb m s.steps va line ∧ s.steps ≤ 16384 ∧ ScN w m s.steps s.vars ∧ ActsAt w b0 va s.acts ∧ b0 ≤ mb ∧ b0 ≤ m ∧ s.acts.length ≤ 4096
def RetRun (b0 mb m : Nat) (w : World) (r : Res) (e : Ending) (w' : World) : Prop := Below b0 w w' ∧ Kept3 w w' ∧ match r with
  | .ok s => e = .returned (.tuple #[]) ∧ ∃ line, MSt b0 mb m w' line s
  | .error (k, line) => e = .panicked [Tr k] ∧ w'.cell? ⟨mb, 3, none⟩ = some (.int .i64 line)
def RunC (ss : List Stm) : Prop := ∀ (w : World) (F : Nat → Prop) (b0 mb m : Nat) (line : Int) (s : Ran) (v : Value) (ps : List Nat), (∀ k, F k → k < b0) → PRow w v ps → (∀ k, v.ownBlock = some k → F k) → StmsAt w F ps ss → Acts w → 0 < b0 → b0 ≤ w.heap.size → MSt b0 mb m w line s →
  Calls Tryz.prog 61 #[ptr mb, v] w (RetRun b0 mb m w (runL ss s))
def res1 : Res → List Stm → Res
  | .ok s, ss => runL ss s
  | .error e, _ => .error e
theorem runL_drop {ss : List Stm} {j : Nat} {t : Stm} (h : ss[j]? = some t) (s : Ran) : runL (ss.drop j) s = res1 (runS t s) (ss.drop (j + 1)) := by
  obtain ⟨hlt, rfl⟩ := List.getElem?_eq_some_iff.1 h
  rw [List.drop_eq_getElem_cons hlt, runL_cons]
  cases runS ss[j] s <;> rfl
theorem StmsAt.get {w : World} {F : Nat → Prop} : ∀ {ss : List Stm} {ps : List Nat}, StmsAt w F ps ss → ∀ j (h : j < ps.length), ∃ t, ss[j]? = some t ∧ StmAt w F (ps[j]) t
  | [], ps, h, j, hj => by unfold StmsAt at h; subst h; simp at hj
  | s :: ss, ps, h, j, hj => by
    unfold StmsAt at h
    obtain ⟨p, ps', rfl, h1, h2⟩ := h
    cases j with
    | zero => exact ⟨s, rfl, h1⟩
    | succ j =>
      obtain ⟨t, h3, h4⟩ := h2.get j (by simpa using hj)
      exact ⟨t, by simpa using h3, h4⟩
theorem StmsAt.below {w w' : World} {F : Nat → Prop} {b0 : Nat} {ps : List Nat} {ss : List Stm} (h : StmsAt w F ps ss) (hF : ∀ k, F k → k < b0) (b : Below b0 w w') : StmsAt w' F ps ss := StmsAt.keep b.size (fun k hk => b.block k (hF k hk)) ss ps h
theorem evalAll_within {σ : List UInt8 → Option Int} : ∀ {xs : List Ex} {l : List Int}, evalAll σ xs = .ok l → (∀ x ∈ xs, Fine x) → l.length = xs.length ∧ ∀ n ∈ l, Within n
  | [], l, h, _ => by simp only [evalAll] at h; cases h; exact ⟨rfl, fun n hn => by cases hn⟩
  | x :: xs, l, h, hf => by
    simp only [evalAll] at h
    cases hx : x.eval σ with
    | error e => rw [hx] at h; cases h
    | ok v =>
      rw [hx] at h
      cases hxs : evalAll σ xs with
      | error e => rw [hxs] at h; cases h
      | ok vs =>
        rw [hxs] at h
        cases h
        obtain ⟨h1, h2⟩ := evalAll_within hxs (fun y hy => hf y (by simp [hy]))
        refine ⟨by simp [h1], fun n hn => ?_⟩
        rcases List.mem_cons.1 hn with rfl | hn
        · exact eval_within (hf x (by simp)) hx
        · exact h2 n hn
theorem ExAll.fine {w : World} {F : Nat → Prop} : ∀ {fs : List (FuncId × Array Value)} {xs : List Ex}, ExAll w F fs xs → ∀ x ∈ xs, Fine x
  | [], xs, h, x, hx => by unfold ExAll at h; subst h; cases hx
  | f :: fs, xs, h, x, hx => by
    unfold ExAll at h
    obtain ⟨y, xs', rfl, h1, h2⟩ := h
    rcases List.mem_cons.1 hx with rfl | hx
    · exact h1.fine
    · exact h2.fine x hx
theorem ArgsAt.fine {w : World} {F : Nat → Prop} {v : Value} {xs : List Ex} (h : ArgsAt w F v xs) : ∀ x ∈ xs, Fine x := let ⟨_, _, _, h3⟩ := h; h3.fine
theorem lit_str (s : ByteArray) (l : List UInt8) : (s.toList == l) = decide (txt s = l) := by
  rw [ByteArray.toList_eq]
  by_cases h : txt s = l
  · simp [h]
  · simp [h]
theorem Acts.below' {w w' : World} {b0 : Nat} (h : Acts w) (hb : 0 < b0) (b : Below b0 w w') : Acts w' := ⟨Nat.lt_of_lt_of_le h.1 b.size, fun j hj i v hv => (b.cell (p := ⟨0, 0 + j * 3 + i, none⟩) hb).trans (h.2 j hj i v hv)⟩
theorem row_base {w : World} {b b' : Nat} {e : TypeId} {size : Nat} {v : Value} {n : Nat} {xs : List Value} (h : w.ownsRow b e size v n xs) (hb : b' ≤ b) : w.ownsRow b' e size v n xs := by
  refine ⟨h.1, ?_⟩
  rcases h.2 with hn | ⟨g, cap, cur, h1, h2, h3⟩
  · exact .inl hn
  · exact .inr ⟨g, cap, cur, h1, Nat.le_trans hb h2, h3⟩
theorem actsCells_snoc (a : Act5) (kv : Value) : ∀ (ac : List Act5) (kvs : List Value), ac.length = kvs.length → actsCells (ac ++ [a]) (kvs ++ [kv]) = actsCells ac kvs ++ actCells a kv
  | [], [], _ => by simp [actsCells]
  | b :: ac, k :: kvs, h => by
    have := actsCells_snoc a kv ac kvs (by simpa using h)
    simp [actsCells, this]
  | [], _ :: _, h => by simp at h
  | _ :: _, [], h => by simp at h
theorem KeepAll.len {w : World} {b0 : Nat} : ∀ {ac : List Act5} {kvs : List Value}, KeepAll w b0 ac kvs → ac.length = kvs.length
  | [], kvs, h => by unfold KeepAll at h; subst h; rfl
  | a :: ac, kvs, h => by
    obtain ⟨kv, kvs', rfl, _, h2⟩ := h
    simp [h2.len]
theorem KeepAll.snoc {w : World} {b0 : Nat} {a : Act5} {kv : Value} (hx : IRow w b0 kv a.keep ∧ a.f.length = 5) : ∀ {ac : List Act5} {kvs : List Value}, KeepAll w b0 ac kvs → KeepAll w b0 (ac ++ [a]) (kvs ++ [kv])
  | [], kvs, h => by unfold KeepAll at h; subst h; exact ⟨kv, [], rfl, hx, rfl⟩
  | b :: ac, kvs, h => by
    obtain ⟨k, kvs', rfl, h1, h2⟩ := h
    exact ⟨k, kvs' ++ [kv], rfl, h1, h2.snoc hx⟩
theorem row_type {w : World} {b : Nat} {e : TypeId} {size : Nat} {v : Value} {n : Nat} {xs : List Value} (h : w.ownsRow b e size v n xs) {k : Nat} (hk : v.ownBlock = some k) : ∃ cur, w.heap[k]? = some (.cells cur e (0, 0)) := by
  rcases h.2 with ⟨rfl, _⟩ | ⟨g, cap, cur, rfl, _, h3, _⟩
  · cases hk
  · cases hk; exact ⟨cur, h3⟩
theorem acts_push {wq w4 : World} {b0 mb m n : Nat} {vac nv kv : Value} {ln : Int} {σ : List UInt8 → Option Int} {ac : List Act5} {kvs : List Value} {a : Act5} (hb : b0 ≤ wq.heap.size) (hmb0 : b0 ≤ mb) (hm : MBlk wq mb m n vac ln) (hsc : ScN wq m n σ) (hrow : wq.ownsRow b0 24 7 vac ac.length (actsCells ac kvs)) (hk : KeepAll wq b0 ac kvs) (hkv : IRow wq b0 kv a.keep) (h5 : a.f.length = 5)
    {cs : Array Value} (hgr : (wq.alloc (.cells cs 24)).grownBy w4 vac.ownBlock) (hown4 : w4.ownsRow b0 24 7 nv (ac.length + 1) (actsCells ac kvs ++ actCells a kv)) :
    Below b0 wq (w4.setCell ⟨mb, 2, none⟩ nv) ∧ MBlk (w4.setCell ⟨mb, 2, none⟩ nv) mb m n nv ln ∧ ScN (w4.setCell ⟨mb, 2, none⟩ nv) m n σ ∧ ActsAt (w4.setCell ⟨mb, 2, none⟩ nv) b0 nv (ac ++ [a]) ∧ w4.cell? ⟨mb, 2, none⟩ = some vac ∧ w4.frozen? ⟨mb, 2, none⟩ = false ∧ Below b0 wq w4 ∧ Kept3 wq (w4.setCell ⟨mb, 2, none⟩ nv) := by
  have keep : ∀ k, k < wq.heap.size → vac.ownBlock ≠ some k → w4.heap[k]? = wq.heap[k]? := fun k hk hne => (hgr.block k (by simp; omega) (fun e => hne e.symm)).trans (heap_alloc_old wq _ hk)
  have hmlt := Blk.lt hm
  have hmne : vac.ownBlock ≠ some mb := fun e => by
    obtain ⟨cur, h⟩ := row_type hrow e
    unfold MBlk Blk at hm
    rw [h] at hm
    injection hm with hm
    injection hm with _ hm
    cases hm
  have hm4 : MBlk w4 mb m n vac ln := (keep mb hmlt hmne).trans hm
  have hmm := hsc.ne hm
  have hmn2 : vac.ownBlock ≠ some m := fun e => by
    obtain ⟨cur, h⟩ := row_type hrow e
    exact hsc.ne (k := m) (show Blk wq m cur 24 from h) rfl
  have hs4 : ScN w4 m n σ := by
    obtain ⟨D, ⟨es, clock, h1, h2⟩, h3⟩ := hsc
    exact ⟨D, ⟨es, clock, (keep m (Array.getElem?_eq_some_iff.1 h1).1 hmn2).trans h1, h2⟩, h3⟩
  have hk4 : KeepAll w4 b0 ac kvs := hk.typed (fun k cur z h => keep k (Array.getElem?_eq_some_iff.1 h).1 (fun e => by
    obtain ⟨cur', h'⟩ := row_type hrow e
    rw [h] at h'
    injection h' with h'
    injection h' with _ h'
    cases h'))
  have hkv4 : IRow w4 b0 kv a.keep := row_typed hkv (fun k cur z h => keep k (Array.getElem?_eq_some_iff.1 h).1 (fun e => by
    obtain ⟨cur', h'⟩ := row_type hrow e
    rw [h] at h'
    injection h' with h'
    injection h' with _ h'
    cases h'))
  have ha4 : ActsAt w4 b0 nv (ac ++ [a]) := ⟨kvs ++ [kv], by rw [actsCells_snoc a kv ac kvs hk.len, List.length_append]; exact hown4, hk4.snoc ⟨hkv4, h5⟩⟩
  have hst : Stays (fun k => k = mb) w4 (w4.setCell ⟨mb, 2, none⟩ nv) := Stays.cell (.refl _ w4) 2 _
  have hsz : wq.heap.size ≤ w4.heap.size := by have := hgr.size; simp at this; omega
  have hb4 : Below b0 wq w4 := ⟨hgr.os, hgr.tape, hgr.output, hsz, fun k hk => keep k (by omega) (fun e => by have := (hrow.lt k e).1; omega)⟩
  refine ⟨hb4.trans (hst.below (by omega) (fun k hk e => by omega)), Blk.set hm4 2 nv, hs4.stays hst (hsc.ne hm), ha4.typed (.blk hm4 ⟨by decide, by decide⟩ hst), (Blk.cell hm4 2).trans rfl, Blk.frozen hm4 2, hb4, Kept3.trans (fun k cur T z n1 n2 h => keep k (Array.getElem?_eq_some_iff.1 h).1 (fun e => by
    obtain ⟨cur', h'⟩ := row_type hrow e
    rw [h] at h'
    injection h' with h'
    injection h' with _ h'
    exact n1 h')) (Kept3.blk hm4 hst)⟩
theorem alloc2 {w w' : World} (b : Below w.heap.size w w') (o : Obj) : Below w.heap.size w (w'.alloc o) := b.alloc b.size o
theorem irow_slice {w : World} {b : Nat} {v : Value} {l : List Int} (h : IRow w b v l) : ∃ a n c, v = .slice a n c := by
  rcases irow_form h with ⟨rfl, _⟩ | ⟨L, cap, rfl, _⟩
  · exact ⟨_, _, _, rfl⟩
  · exact ⟨_, _, _, rfl⟩
theorem makeL_form (k : Nat) (l : List Int) : ∃ a b c d e kp, makeActL k l = ⟨k, [a, b, c, d, e], kp⟩ := by
  unfold makeActL
  split
  · exact ⟨_, _, _, _, _, _, rfl⟩
  · obtain ⟨a, b, c, d, e, h⟩ := five (l := (l ++ [0, 0, 0, 0, 0]).take 5) (by simp)
    exact ⟨a, b, c, d, e, [], by rw [h]⟩
theorem makeAct_any {w : World} {b : Nat} {v : Value} {l : List Int} (k : Nat) (h : IRow w b v l) (hk : k ≤ 17) (hl : l.length ≤ 16) (h5 : k ≠ 17 → l.length ≤ 5) : Calls Tryz.prog 46 #[.int .i64 k, v] w (RetA w (makeActL k l)) := by
  by_cases h17 : k = 17
  · subst h17; exact makeAct_crash h (by omega)
  · exact makeAct_five k h (by omega) (h5 h17)
theorem info24 : (Tryz.prog.info? 24).map (fun i => (i.zero, i.size, i.bytes)) = some (some (.agg #[.int .i64 0, .int .i64 0, .int .i64 0, .int .i64 0, .int .i64 0, .int .i64 0, .slice none 0 0]), 7, 72) := by kernel_rfl
theorem step_in {ln : Nat} {s : Ran} (h : s.steps + 1 ≤ 16384) : stepL ln s = .ok ⟨s.vars, s.steps + 1, s.acts⟩ := by unfold stepL; rw [if_neg (by omega)]
theorem runS_if {ln : Nat} {k nm : List UInt8} {args : List Ex} {body other : List Stm} {s : Ran} {n0 : Int} (h : s.steps + 1 ≤ 16384) (hv : evalAll s.vars args = .ok [n0]) (hk : k = sIf) :
    runS (.mk ln k nm args body other) s = if n0 ≠ 0 then runL body ⟨s.vars, s.steps + 1, s.acts⟩ else runL other ⟨s.vars, s.steps + 1, s.acts⟩ := by
  subst hk
  unfold runS
  rw [step_in h]
  simp only [hv]
  rw [if_neg (by decide), if_neg (by decide), if_pos trivial]
  rfl
theorem runS_for {ln : Nat} {k nm : List UInt8} {args : List Ex} {body other : List Stm} {s : Ran} {n0 n1 : Int} (h : s.steps + 1 ≤ 16384) (hv : evalAll s.vars args = .ok [n0, n1]) (hk : k = sFor) :
    runS (.mk ln k nm args body other) s = loopL (fun r => runL body r) ln nm 16385 n0 n1 ⟨s.vars, s.steps + 1, s.acts⟩ := by
  subst hk
  unfold runS
  rw [step_in h]
  simp only [hv]
  rw [if_neg (by decide), if_pos trivial]
  rfl
theorem runS_act {ln : Nat} {k nm : List UInt8} {args : List Ex} {body other : List Stm} {s : Ran} {l : List Int} (h : s.steps + 1 ≤ 16384) (hv : evalAll s.vars args = .ok l) (h1 : k ≠ sLet) (h2 : k ≠ sFor) (h3 : k ≠ sIf) :
    runS (.mk ln k nm args body other) s = if s.acts.length = 4096 then .error (5, ln) else .ok ⟨s.vars, s.steps + 1, s.acts ++ [makeActL (actOfL k) l]⟩ := by
  unfold runS
  rw [step_in h]
  simp only [hv]
  rw [if_neg h1, if_neg h2, if_neg h3]
structure AtV (w0 : World) (b0 mb m : Nat) (w : World) (p ln n : Nat) (kb nb : ByteArray) (va vb vo vac : Value) (ho : Bool) (s : Ran) (F : Nat → Prop) (psb pso : List Nat) (body other : List Stm) : Prop where
  bl : Below b0 w0 w
  mblk : MBlk w mb m n vac ln
  scn : ScN w m s.steps s.vars
  acts : ActsAt w b0 vac s.acts
  pblk : Blk w p #[.int .i64 ln, .string kb, .string nb, va, vb, vo, .bool ho] 112
  rb : PRow w vb psb
  ro : PRow w vo pso
  sb : StmsAt w F psb body
  so : StmsAt w F pso other
  k3 : Kept3 w0 w
theorem AtV.keep {w0 : World} {b0 mb m : Nat} {w w' : World} {p ln n : Nat} {kb nb : ByteArray} {va vb vo vac : Value} {ho : Bool} {s : Ran} {F : Nat → Prop} {psb pso : List Nat} {body other : List Stm} (h : AtV w0 b0 mb m w p ln n kb nb va vb vo vac ho s F psb pso body other) (hF : ∀ k, F k → k < b0) (hp : p < b0) (hb : b0 ≤ w.heap.size) (hvb : ∀ k, vb.ownBlock = some k → F k) (hvo : ∀ k, vo.ownBlock = some k → F k) (b : Below w.heap.size w w') :
    AtV w0 b0 mb m w' p ln n kb nb va vb vo vac ho s F psb pso body other :=
  ⟨h.bl.trans (b.mono hb), Blk.below h.mblk b, h.scn.below b, h.acts.typed (.below b), Blk.below h.pblk b, row_stays (M := fun _ => False) h.rb (.of b) (fun _ _ h => h), row_stays (M := fun _ => False) h.ro (.of b) (fun _ _ h => h), h.sb.below hF (b.mono hb), h.so.below hF (b.mono hb), h.k3.trans (.below b)⟩
theorem AtV.of {w : World} {b0 mb m : Nat} {W : World} {p ln n : Nat} {kb nb : ByteArray} {va vb vo vac : Value} {ho : Bool} {s : Ran} {F : Nat → Prop} {psb pso : List Nat} {body other : List Stm} (hF : ∀ k, F k → k < b0) (hp : F p) (hvb : ∀ k, vb.ownBlock = some k → F k) (hvo : ∀ k, vo.ownBlock = some k → F k)
    (hblk : Blk w p #[.int .i64 ln, .string kb, .string nb, va, vb, vo, .bool ho] 112) (hrb : PRow w vb psb) (hro : PRow w vo pso) (hsb : StmsAt w F psb body) (hso : StmsAt w F pso other) (b : Below b0 w W) (h1 : MBlk W mb m n vac ln) (h2 : ScN W m s.steps s.vars) (h3 : ActsAt W b0 vac s.acts) (h4 : Kept3 w W) :
    AtV w b0 mb m W p ln n kb nb va vb vo vac ho s F psb pso body other :=
  ⟨b, h1, h2, h3, (b.block p (hF p hp)).trans hblk, row_keep hrb (fun k hk => b.block k (hF k (hvb k hk))), row_keep hro (fun k hk => b.block k (hF k (hvo k hk))), hsb.below hF b, hso.below hF b, h4⟩
theorem AtV.put {w0 : World} {b0 mb m : Nat} {w w' : World} {p ln n : Nat} {kb nb : ByteArray} {va vb vo vac : Value} {ho : Bool} {s : Ran} {F : Nat → Prop} {psb pso : List Nat} {body other : List Stm} (h : AtV w0 b0 mb m w p ln n kb nb va vb vo vac ho s F psb pso body other) (hb : b0 ≤ w.heap.size) (hm0 : b0 ≤ m) (g : w.grownBy w' (some m)) :
    Below b0 w0 w' ∧ MBlk w' mb m n vac ln ∧ ActsAt w' b0 vac s.acts ∧ Kept3 w0 w' := by
  have hs := grown_stays g
  have hs' : Stays (fun k => k = m) w w' := hs.mono (fun k _ e => by cases e; rfl)
  refine ⟨h.bl.trans (hs'.below hb (fun k hk e => by omega)), Blk.stays h.mblk hs' (fun e => h.scn.ne h.mblk e.symm), h.acts.typed (.map h.scn hs'), h.k3.trans (Kept3.map h.scn hs')⟩
set_option maxRecDepth 100000 in
set_option maxHeartbeats 8000000 in
theorem run_round (ss : List Stm) (IH : ∀ line kind name args body other, Stm.mk line kind name args body other ∈ ss → RunC body ∧ RunC other) : RunC ss := by
  intro w F b0 mb m line s v ps hF hrow hvF hstm hacts hb0 hb0w hst
  obtain ⟨res, hres⟩ : ∃ res, res = runL ss s := ⟨_, rfl⟩
  rw [← hres]
  have hpl := hstm.len
  rcases hrow.2 with ⟨rfl, h0⟩ | ⟨L, cap, cur, rfl, _, hL, hncap, hcapm, hsz, htake⟩
  · have hs0 : ss = [] := List.length_eq_zero_iff.1 (by omega)
    subst hs0
    have HR := Lib.hid hres
    clear hres
    go_enter Tryz.func61, Tryz.ntmps61
    go_wp2_with fail
    refine wp_loop_rounds 1 ?_
    rw [rounds_succ]
    go_wp2_with fail
    go_end0
    unfold RetRun
    rw [HR.out, runL_nil]
    exact ⟨Below.refl _ _, Kept3.refl _, rfl, line, hst⟩
  · have hcur : ∀ j (hj : j < ps.length), w.cell? ⟨L, j, none⟩ = some (ptr ps[j]) := by
      intro j hj
      have := row_get hrow (by omega) j (by simpa using hj)
      rw [this]; simp
    have hLb : L < b0 := hF L (hvF L rfl)
    have HRES := Lib.hid hres
    have HPL := Lib.hid hpl
    have hlen' : ps.length ≤ 9223372036854775807 := by unfold maxLen at hcapm; omega
    clear hres hpl
    go_enter Tryz.func61, Tryz.ntmps61
    go_wp2_with fail
    go_loopw [10] (fun t wr => ∃ (j : Nat) (s1 : Ran) (line1 : Int), t = .int .i64 j ∧ j ≤ ps.length ∧ runL (ss.drop j) s1 = res ∧ MSt b0 mb m wr line1 s1 ∧ Below b0 w wr ∧ Kept3 w wr) (fun t wr => ps.length - (intOf t).toNat)
    case atStart => exact ⟨0, s, line, rfl, Nat.zero_le _, HRES.out.symm, hst, Below.refl _ _, Kept3.refl _⟩
    case round =>
      obtain ⟨j, s1, line1, rfl, hj, hev, hm1, hbl, hq3⟩ := hrel
      by_cases hlt : j < ps.length
      · obtain ⟨t, htj, hat⟩ := hstm.get j hlt
        have cj : wr.cell? ⟨L, j, none⟩ = some (ptr ps[j]) := (hbl.cell (p := ⟨L, j, none⟩) hLb).trans (hcur j hlt)
        have hmem : t ∈ ss := List.mem_of_getElem? htj
        generalize ps[j] = p at *
        obtain ⟨ln, kind, name, args, body, other⟩ := t
        have hih := IH ln kind name args body other hmem
        unfold StmAt at hat
        obtain ⟨⟨hFp, hok⟩, va, vb, vo, ho, psb, pso, ⟨kb, nb, rfl, rfl, hk6, hn6, hl6, hblk⟩, hargs, ⟨hrb, hrbF⟩, ⟨hro, hroF⟩, hsb, hso⟩ := hat
        have hpb : p < b0 := hF p hFp
        have HE := Lib.hid ((runL_drop htj s1).symm.trans hev)
        clear hev htj
        obtain ⟨vac, hmb, hsteps, hscn, hact, hmb0, hm0, ha4⟩ := hm1
        have hp0 : wr.cell? ⟨p, 0, none⟩ = some (.int .i64 ln) := (hbl.cell (p := ⟨p, 0, none⟩) hpb).trans ((hblk.cell 0).trans rfl)
        by_cases hfull : s1.steps = 16384
        · have HS := Lib.hid (step_full ln hmb hfull)
          have hr : res = .error (5, ln) := by
            rw [← HE.out]
            unfold runS stepL
            rw [if_pos (by omega)]
            rfl
          have HR := Lib.hid hr
          have hmlt := Blk.lt hmb
          clear hr hfull
          go_wp2_with fail
          refine HS.out.mono ?_
          rintro e w1 ⟨rfl, h1, h2⟩
          refine ⟨rfl, ?_⟩
          unfold RetRun
          rw [HR.out]
          exact ⟨hbl.trans (h1.below (Nat.le_trans hb0w hbl.size) (fun k hk e => by omega)), hq3.trans (Kept3.blk hmb h1), rfl, (Blk.cell h2 3).trans rfl⟩
        · have HS := Lib.hid (step_ok ln hmb (by omega))
          have hb0r : b0 ≤ wr.heap.size := Nat.le_trans hb0w hbl.size
          have hmm := hscn.ne hmb
          have mk1 : ∀ w1, Stays (fun k => k = mb) wr w1 → MBlk w1 mb m (s1.steps + 1) vac ln → AtV w b0 mb m w1 p ln (s1.steps + 1) kb nb va vb vo vac ho s1 F psb pso body other := fun w1 h1 h2 =>
            AtV.of hF hFp hrbF hroF hblk hrb hro hsb hso (hbl.trans (h1.below hb0r (fun k hk e => by omega))) h2 (hscn.stays h1 hmm) (hact.typed (.blk hmb ⟨by decide, by decide⟩ h1)) (hq3.trans (Kept3.blk hmb h1))
          have hargs1 : ∀ w1, Below b0 w w1 → ArgsAt w1 F va args := fun w1 b => hargs.keep b.size (fun k hk => b.block k (hF k hk))
          have hal : args.length ≤ 16 := by
            unfold ArgOk at hok
            split at hok
            · omega
            · split at hok
              · omega
              · split at hok
                · omega
                · exact hok.1
          have hvals : ∀ w1, AtV w b0 mb m w1 p ln (s1.steps + 1) kb nb va vb vo vac ho s1 F psb pso body other → Calls Tryz.prog 104 #[ptr mb, va] w1 (RetL w1 (evalAll s1.vars args)) := fun w1 h => values_any h.mblk h.scn.sc (hargs1 w1 h.bl) (by omega)
          have MK := Lib.hid mk1
          have hfine := hargs.fine
          have hfit : s1.steps + 1 ≤ 16384 := by omega
          have hact0 := hact
          clear hargs1 hargs mk1 hact hmb hrow hcur hstm hfull
          cases hv : evalAll s1.vars args with
          | error k =>
            have hr : res = .error (k, ln) := by
              rw [← HE.out]
              unfold runS stepL
              rw [if_neg (by omega)]
              simp only [hv, res1]
            have HR := Lib.hid hr
            have HV := Lib.hid hvals
            rw [hv] at HV
            clear hvals hr hv
            go_wp2_with fail
            refine HS.out.mono ?_
            rintro e w1 ⟨rfl, h1, h2⟩
            have a1 := MK.out w1 h1 h2
            have p3 : w1.cell? ⟨p, 3, none⟩ = some va := (a1.pblk.cell 3).trans rfl
            have hvv := HV.out w1 a1
            go_wp2_with fail
            refine hvv.mono ?_
            rintro e w2 ⟨b2, rfl⟩
            have hb1 : b0 ≤ w1.heap.size := Nat.le_trans hb0w a1.bl.size
            have a2 := a1.keep hF hpb hb1 hrbF hroF b2
            refine ⟨rfl, ?_⟩
            unfold RetRun
            rw [HR.out]
            exact ⟨a2.bl, a2.k3, rfl, (Blk.cell a2.mblk 3).trans rfl⟩
          | ok l =>
            have hvs := evalAll_within hv hfine
            have HV := Lib.hid hvals
            rw [hv] at HV
            by_cases hk1 : txt kb = sLet
            · have hl1 : l.length = 1 := by rw [hvs.1]; unfold ArgOk at hok; rw [if_pos hk1] at hok; exact hok
              obtain ⟨n0, rfl⟩ : ∃ n0, l = [n0] := by
                match l, hl1 with
                | [n0], _ => exact ⟨n0, rfl⟩
              have hn0 := hvs.2 n0 (by simp)
              have hr : res = runL (ss.drop (j + 1)) ⟨upd s1.vars (txt nb) n0, s1.steps + 1, s1.acts⟩ := by
                rw [← HE.out]
                unfold runS stepL
                rw [if_neg (by omega)]
                simp only [hv, hk1, if_true, res1]
                rfl
              have HR := Lib.hid hr
              have e1 : (kb.toList == [108, 101, 116]) = true := by rw [lit_str]; exact decide_eq_true hk1
              clear hvals hr hv hk1 hvs
              go_wp2_with fail
              refine HS.out.mono ?_
              rintro e w1 ⟨rfl, h1, h2⟩
              have a1 := MK.out w1 h1 h2
              have p3 : w1.cell? ⟨p, 3, none⟩ = some va := (a1.pblk.cell 3).trans rfl
              have hvv := HV.out w1 a1
              have hb1 : b0 ≤ w1.heap.size := Nat.le_trans hb0w a1.bl.size
              go_wp2_with fail
              refine hvv.mono ?_
              rintro e w2 ⟨b2, vr, rfl, hrow2⟩
              have a2 := a1.keep hF hpb hb1 hrbF hroF b2
              have q1 : w2.cell? ⟨p, 1, none⟩ = some (.string kb) := (a2.pblk.cell 1).trans rfl
              have q2 : w2.cell? ⟨p, 2, none⟩ = some (.string nb) := (a2.pblk.cell 2).trans rfl
              have mc0 : w2.cell? ⟨mb, 0, none⟩ = some (.map (some m)) := (Blk.cell a2.mblk 0).trans rfl
              rcases irow_form hrow2 with ⟨_, h0⟩ | ⟨G, cg, rfl, hG, hGc⟩
              · cases h0
              · have g0 : w2.cell? ⟨G, 0, none⟩ = some (.int .i64 n0) := hGc 0 _ rfl
                clear h1 h2 hvv p3
                go_wp2_with fail
                go_still_tail 11, (by kernel_rfl)
                obtain ⟨D, hown, hscp⟩ := a2.scn
                refine wpList_mapUpdate_own _ rfl _ _ _ 119 rfl 9 3 law9 Tryz.underlying119 (plainElem Tryz.prog 3) m s1.steps D rfl hown.drew (by unfold maxLen; omega) _ _ (.string (txt nb)) rfl rfl (keyOf_string_mk Tryz.underlying9 (by unfold maxLen; omega)) (.lit (.int .i64 n0)) [] (plainElem_int Tryz.underlying3 (WalkArith.wf_i64 (by unfold Within maxValue at hn0; omega))) ?_
                intro w3 hown3 hgrow3
                have g3 : w2.grownBy w3 (some m) := ⟨hgrow3.os, hgrow3.tape, hgrow3.output, hgrow3.size, hgrow3.block⟩
                obtain ⟨r1, r2, r3, r5⟩ := a2.put (Nat.le_trans hb1 b2.size) hm0 g3
                have r4 : ScN w3 m (s1.steps + 1) (upd s1.vars (txt nb) n0) := ScN.put hown hscp hown3
                clear hown hscp hown3 hgrow3 a2 a1 hrow2 hGc g0 q1 q2 mc0
                go_wp2_with fail
                go_roundw
                case rel =>
                  exact ⟨j + 1, ⟨upd s1.vars (txt nb) n0, s1.steps + 1, s1.acts⟩, ln, by go_num, by omega, HR.out.symm, ⟨vac, r2, hfit, r4, r3, hmb0, hm0, ha4⟩, r1, r5⟩
                case measure => simp [intOf]; omega
            · have e1 : (kb.toList == [108, 101, 116]) = false := by rw [lit_str]; exact decide_eq_false hk1
              by_cases hk2 : txt kb = sFor
              · have e2 : (kb.toList == [102, 111, 114]) = true := by rw [lit_str]; exact decide_eq_true hk2
                have hl2 : l.length = 2 := by rw [hvs.1]; unfold ArgOk at hok; rw [if_neg hk1, if_pos hk2] at hok; exact hok
                obtain ⟨n0, n1, rfl⟩ : ∃ n0 n1, l = [n0, n1] := by
                  match l, hl2 with
                  | [n0, n1], _ => exact ⟨n0, n1, rfl⟩
                have hn0 := hvs.2 n0 (by simp)
                have hn1 := hvs.2 n1 (by simp)
                have hr : res1 (loopL (fun r => runL body r) ln (txt nb) 16385 n0 n1 ⟨s1.vars, s1.steps + 1, s1.acts⟩) (ss.drop (j + 1)) = res := by
                  rw [← HE.out, runS_for hfit hv hk2]
                have HR := Lib.hid hr
                have HI := Lib.hid hih.1
                clear hvals hr hv hk1 hk2 hvs
                unfold Within maxValue at hn0 hn1
                go_wp2_with fail
                refine HS.out.mono ?_
                rintro e w1 ⟨rfl, h1, h2⟩
                have a1 := MK.out w1 h1 h2
                have p3 : w1.cell? ⟨p, 3, none⟩ = some va := (a1.pblk.cell 3).trans rfl
                have hvv := HV.out w1 a1
                have hb1 : b0 ≤ w1.heap.size := Nat.le_trans hb0w a1.bl.size
                go_wp2_with fail
                refine hvv.mono ?_
                rintro e w2 ⟨b2, vr, rfl, hrow2⟩
                have a2 := a1.keep hF hpb hb1 hrbF hroF b2
                have hb2 : b0 ≤ w2.heap.size := Nat.le_trans hb1 b2.size
                have q1 : w2.cell? ⟨p, 1, none⟩ = some (.string kb) := (a2.pblk.cell 1).trans rfl
                rcases irow_form hrow2 with ⟨_, h0⟩ | ⟨G, cg, rfl, hG, hGc⟩
                · cases h0
                · have g0 : w2.cell? ⟨G, 0, none⟩ = some (.int .i64 n0) := hGc 0 _ rfl
                  have ROW := Lib.hid hrow2
                  have A2 := Lib.hid a2
                  have HA := Lib.hid (hacts.below' hb0 a2.bl)
                  clear h1 h2 hvv p3 hrow2 hGc hih HS MK HV hacts
                  go_wp2_with fail
                  go_loopw [7] (fun t wr2 => ∃ (k : Nat) (v : Int) (s2 : Ran) (l2 : Int), t = .int .i64 v ∧ n0 ≤ v ∧ v ≤ 9007199254740993 ∧ res1 (loopL (fun r => runL body r) ln (txt nb) k v n1 s2) (ss.drop (j + 1)) = res ∧ 16385 ≤ k + s2.steps ∧ MSt b0 mb m wr2 l2 s2 ∧ Below b0 w2 wr2 ∧ Kept3 w2 wr2) (fun t wr2 => (n1 + 1 - intOf t).toNat)
                  case atStart =>
                    exact ⟨16385, n0, ⟨s1.vars, s1.steps + 1, s1.acts⟩, ln, rfl, Int.le_refl _, by omega, HR.out, by simp only; omega, ⟨vac, a2.mblk, hfit, a2.scn.mono (Nat.le_succ _), a2.acts, hmb0, hm0, ha4⟩, Below.refl _ _, Kept3.refl _⟩
                  case round =>
                    obtain ⟨k, v, s2, l2, rfl, hv0, hv1, hev2, hfu, hm2, hbl2, hk2⟩ := hrel
                    have g1 : wr.cell? ⟨G, 1, none⟩ = some (.int .i64 n1) := by
                      rcases irow_form (row_typed ROW.out (fun k cur z h => hk2 k cur 3 z (by decide) (by decide) h)) with ⟨h0, _⟩ | ⟨G', cg', h0, _, hc⟩
                      · cases h0
                      · injection h0 with h0 _ _
                        injection h0 with h0
                        injection h0 with h0
                        subst h0
                        exact hc 1 _ rfl
                    obtain ⟨va2, hmb2, hst2, hscn2, hact2, _, _, ha42⟩ := hm2
                    have HE2 := Lib.hid hev2
                    have HFU := Lib.hid hfu
                    clear hev2 hfu
                    by_cases hlt2 : v ≤ n1
                    · have hd : decide (v ≤ n1) = true := decide_eq_true hlt2
                      have hk0 : ∃ k', k = k' + 1 := ⟨k - 1, by have := HFU.out; omega⟩
                      obtain ⟨k, rfl⟩ := hk0
                      have c0 : wr.cell? ⟨p, 0, none⟩ = some (.int .i64 ln) := (hbl2.cell (p := ⟨p, 0, none⟩) hpb).trans ((A2.out.pblk.cell 0).trans rfl)
                      by_cases hfull2 : s2.steps = 16384
                      · have HS2 := Lib.hid (step_full ln hmb2 hfull2)
                        have hr : res = .error (5, ln) := by rw [← HE2.out, loopL_full hlt2 hfull2]; rfl
                        have HR2 := Lib.hid hr
                        clear hr hfull2
                        go_wp2_with fail
                        refine HS2.out.mono ?_
                        rintro e w3 ⟨rfl, h1, h2⟩
                        refine ⟨rfl, ?_⟩
                        unfold RetRun
                        rw [HR2.out]
                        exact ⟨(A2.out.bl.trans hbl2).trans (h1.below (Nat.le_trans hb2 hbl2.size) (fun k hk e => by omega)), (A2.out.k3.trans hk2).trans (Kept3.blk hmb2 h1), rfl, (Blk.cell h2 3).trans rfl⟩
                      · have hfit2 : s2.steps + 1 ≤ 16384 := by omega
                        have HS2 := Lib.hid (step_ok ln hmb2 hfit2)
                        have hgo := loopL_go (f := fun r => runL body r) (l := ln) (n := txt nb) (k := k) hlt2 hfit2
                        have mk2 : ∀ w3, Stays (fun k => k = mb) wr w3 → MBlk w3 mb m (s2.steps + 1) va2 ln → AtV w2 b0 mb m w3 p ln (s2.steps + 1) kb nb va vb vo va2 ho s2 F psb pso body other := fun w3 h1 h2 =>
                          AtV.of hF hFp hrbF hroF A2.out.pblk A2.out.rb A2.out.ro A2.out.sb A2.out.so (hbl2.trans (h1.below (Nat.le_trans hb2 hbl2.size) (fun k hk e => by omega))) h2 (hscn2.stays h1 (hscn2.ne hmb2)) (hact2.typed (.blk hmb2 ⟨by decide, by decide⟩ h1)) (hk2.trans (Kept3.blk hmb2 h1))
                        have MK2 := Lib.hid mk2
                        have HGO := Lib.hid hgo
                        have hsz2 := hbl2.size
                        clear mk2 hgo hfull2
                        cases hrb0 : runL body ⟨upd s2.vars (txt nb) v, s2.steps + 1, s2.acts⟩ with
                        | error ke =>
                          obtain ⟨k9, l9⟩ := ke
                          have hr : res = .error (k9, l9) := by rw [← HE2.out, HGO.out]; simp only [hrb0]; rfl
                          have HR2 := Lib.hid hr
                          have HB := Lib.hid hrb0
                          clear hr hrb0
                          go_wp2_with fail
                          refine HS2.out.mono ?_
                          rintro e w3 ⟨rfl, h1, h2⟩
                          have a3 := MK2.out w3 h1 h2
                          have q2 : w3.cell? ⟨p, 2, none⟩ = some (.string nb) := (a3.pblk.cell 2).trans rfl
                          have mc0 : w3.cell? ⟨mb, 0, none⟩ = some (.map (some m)) := (Blk.cell a3.mblk 0).trans rfl
                          have hb3 : b0 ≤ w3.heap.size := Nat.le_trans hb2 a3.bl.size
                          clear h1 h2
                          go_wp2_with fail
                          go_still_tail 9, (by kernel_rfl)
                          obtain ⟨D, hown, hscp⟩ := a3.scn
                          refine wpList_mapUpdate_own _ rfl _ _ _ 119 rfl 9 3 law9 Tryz.underlying119 (plainElem Tryz.prog 3) m s2.steps D rfl hown.drew (by unfold maxLen; omega) _ _ (.string (txt nb)) rfl rfl (keyOf_string_mk Tryz.underlying9 (by unfold maxLen; omega)) (.lit (.int .i64 v)) [] (plainElem_int Tryz.underlying3 (WalkArith.wf_i64 (by omega))) ?_
                          intro w4 hown4 hgrow4
                          have g4 : w3.grownBy w4 (some m) := ⟨hgrow4.os, hgrow4.tape, hgrow4.output, hgrow4.size, hgrow4.block⟩
                          obtain ⟨r1, r2, r3, r5⟩ := a3.put hb3 hm0 g4
                          have r4 : ScN w4 m (s2.steps + 1) (upd s2.vars (txt nb) v) := ScN.put hown hscp hown4
                          have q4 : w4.cell? ⟨p, 4, none⟩ = some vb := (r1.cell (p := ⟨p, 4, none⟩) hpb).trans ((A2.out.pblk.cell 4).trans rfl)
                          clear hown hscp hown4 hgrow4 a3 q2 mc0
                          go_wp2_with fail
                          have HH := HI.out w4 F b0 mb m ln ⟨upd s2.vars (txt nb) v, s2.steps + 1, s2.acts⟩ vb psb hF (row_keep A2.out.rb (fun k hk => r1.block k (hF k (hrbF k hk)))) hrbF (A2.out.sb.below hF r1) (HA.out.below' hb0 r1) hb0 (Nat.le_trans hb2 r1.size) ⟨va2, r2, hfit2, r4, r3, hmb0, hm0, ha42⟩
                          rw [HB.out] at HH
                          refine HH.mono ?_
                          rintro e w5 ⟨b5, hk9, rfl, hl9⟩
                          refine ⟨rfl, ?_⟩
                          unfold RetRun
                          rw [HR2.out]
                          exact ⟨(A2.out.bl.trans r1).trans b5, (A2.out.k3.trans r5).trans hk9, rfl, hl9⟩
                        | ok s4 =>
                          have hr : res1 (loopL (fun r => runL body r) ln (txt nb) k (v + 1) n1 s4) (ss.drop (j + 1)) = res := by rw [← HE2.out, HGO.out]; simp only [hrb0]
                          have hmon := runL_steps _ _ _ hrb0
                          simp only at hmon
                          have HR2 := Lib.hid hr
                          have HB := Lib.hid hrb0
                          clear hr hrb0
                          go_wp2_with fail
                          refine HS2.out.mono ?_
                          rintro e w3 ⟨rfl, h1, h2⟩
                          have a3 := MK2.out w3 h1 h2
                          have q2 : w3.cell? ⟨p, 2, none⟩ = some (.string nb) := (a3.pblk.cell 2).trans rfl
                          have mc0 : w3.cell? ⟨mb, 0, none⟩ = some (.map (some m)) := (Blk.cell a3.mblk 0).trans rfl
                          have hb3 : b0 ≤ w3.heap.size := Nat.le_trans hb2 a3.bl.size
                          clear h1 h2
                          go_wp2_with fail
                          go_still_tail 9, (by kernel_rfl)
                          obtain ⟨D, hown, hscp⟩ := a3.scn
                          refine wpList_mapUpdate_own _ rfl _ _ _ 119 rfl 9 3 law9 Tryz.underlying119 (plainElem Tryz.prog 3) m s2.steps D rfl hown.drew (by unfold maxLen; omega) _ _ (.string (txt nb)) rfl rfl (keyOf_string_mk Tryz.underlying9 (by unfold maxLen; omega)) (.lit (.int .i64 v)) [] (plainElem_int Tryz.underlying3 (WalkArith.wf_i64 (by omega))) ?_
                          intro w4 hown4 hgrow4
                          have g4 : w3.grownBy w4 (some m) := ⟨hgrow4.os, hgrow4.tape, hgrow4.output, hgrow4.size, hgrow4.block⟩
                          obtain ⟨r1, r2, r3, r5⟩ := a3.put hb3 hm0 g4
                          have r4 : ScN w4 m (s2.steps + 1) (upd s2.vars (txt nb) v) := ScN.put hown hscp hown4
                          have q4 : w4.cell? ⟨p, 4, none⟩ = some vb := (r1.cell (p := ⟨p, 4, none⟩) hpb).trans ((A2.out.pblk.cell 4).trans rfl)
                          clear hown hscp hown4 hgrow4 a3 q2 mc0
                          go_wp2_with fail
                          have HH := HI.out w4 F b0 mb m ln ⟨upd s2.vars (txt nb) v, s2.steps + 1, s2.acts⟩ vb psb hF (row_keep A2.out.rb (fun k hk => r1.block k (hF k (hrbF k hk)))) hrbF (A2.out.sb.below hF r1) (HA.out.below' hb0 r1) hb0 (Nat.le_trans hb2 r1.size) ⟨va2, r2, hfit2, r4, r3, hmb0, hm0, ha42⟩
                          rw [HB.out] at HH
                          refine HH.mono ?_
                          rintro e w5 ⟨b5, hk9, rfl, l9, hm9⟩
                          have r6 := r1.trans b5
                          have r7 := r5.trans hk9
                          clear HH q4
                          go_wp2_with fail
                          go_roundw
                          case rel => exact ⟨k, v + 1, s4, l9, by go_num, by omega, by omega, HR2.out, by have := HFU.out; omega, hm9, r6, r7⟩
                          case measure => simp [intOf]; omega
                    · have hd : decide (v ≤ n1) = false := decide_eq_false hlt2
                      have hr : runL (ss.drop (j + 1)) s2 = res := by rw [← HE2.out, loopL_out hlt2]; rfl
                      have HR2 := Lib.hid hr
                      clear hr
                      go_wp2_with fail
                      go_roundw
                      case rel => exact ⟨j + 1, s2, l2, by go_num, by omega, HR2.out, ⟨va2, hmb2, hst2, hscn2, hact2, hmb0, hm0, ha42⟩, A2.out.bl.trans hbl2, A2.out.k3.trans hk2⟩
                      case measure => simp [intOf]; omega
              · have e2 : (kb.toList == [102, 111, 114]) = false := by rw [lit_str]; exact decide_eq_false hk2
                by_cases hk3 : txt kb = sIf
                · have hl1 : l.length = 1 := by rw [hvs.1]; unfold ArgOk at hok; rw [if_neg hk1, if_neg hk2, if_pos hk3] at hok; exact hok
                  obtain ⟨n0, rfl⟩ : ∃ n0, l = [n0] := by
                    match l, hl1 with
                    | [n0], _ => exact ⟨n0, rfl⟩
                  have e3 : (kb.toList == [105, 102]) = true := by rw [lit_str]; exact decide_eq_true hk3
                  by_cases n0f : n0 = 0
                  · have n0t : (!(n0 == 0)) = false := by simp [n0f]
                    cases hrb0 : runL other ⟨s1.vars, s1.steps + 1, s1.acts⟩ with
                    | error ke =>
                      obtain ⟨k9, l9⟩ := ke
                      have hr : res = .error (k9, l9) := by
                        rw [← HE.out, runS_if hfit hv hk3, if_neg (by simp [n0f]), hrb0]; rfl
                      have HR := Lib.hid hr
                      have HI := Lib.hid hih.2
                      clear hr hv hk1 hk2 hk3 hvs hvals
                      go_wp2_with fail
                      refine HS.out.mono ?_
                      rintro e w1 ⟨rfl, h1, h2⟩
                      have a1 := MK.out w1 h1 h2
                      have p3 : w1.cell? ⟨p, 3, none⟩ = some va := (a1.pblk.cell 3).trans rfl
                      have hvv := HV.out w1 a1
                      have hb1 : b0 ≤ w1.heap.size := Nat.le_trans hb0w a1.bl.size
                      go_wp2_with fail
                      refine hvv.mono ?_
                      rintro e w2 ⟨b2, vr, rfl, hrow2⟩
                      have a2 := a1.keep hF hpb hb1 hrbF hroF b2
                      have q1 : w2.cell? ⟨p, 1, none⟩ = some (.string kb) := (a2.pblk.cell 1).trans rfl
                      have q2 : w2.cell? ⟨p, 5, none⟩ = some vo := (a2.pblk.cell 5).trans rfl
                      rcases irow_form hrow2 with ⟨_, h0⟩ | ⟨G, cg, rfl, hG, hGc⟩
                      · cases h0
                      · have g0 : w2.cell? ⟨G, 0, none⟩ = some (.int .i64 n0) := hGc 0 _ rfl
                        clear h1 h2 hvv p3
                        go_wp2_with fail
                        have HH := HI.out w2 F b0 mb m ln ⟨s1.vars, s1.steps + 1, s1.acts⟩ vo pso hF a2.ro hroF a2.so (hacts.below' hb0 a2.bl) hb0 (Nat.le_trans hb0w a2.bl.size) ⟨vac, a2.mblk, hfit, a2.scn.mono (Nat.le_succ _), a2.acts, hmb0, hm0, ha4⟩
                        rw [hrb0] at HH
                        refine HH.mono ?_
                        rintro e w3 ⟨b3, hk9, rfl, hl9⟩
                        refine ⟨rfl, ?_⟩
                        unfold RetRun
                        rw [HR.out]
                        exact ⟨a2.bl.trans b3, a2.k3.trans hk9, rfl, hl9⟩
                    | ok s2 =>
                      have hr : res = runL (ss.drop (j + 1)) s2 := by
                        rw [← HE.out, runS_if hfit hv hk3, if_neg (by simp [n0f]), hrb0]; rfl
                      have HR := Lib.hid hr
                      have HI := Lib.hid hih.2
                      clear hr hv hk1 hk2 hk3 hvs hvals
                      go_wp2_with fail
                      refine HS.out.mono ?_
                      rintro e w1 ⟨rfl, h1, h2⟩
                      have a1 := MK.out w1 h1 h2
                      have p3 : w1.cell? ⟨p, 3, none⟩ = some va := (a1.pblk.cell 3).trans rfl
                      have hvv := HV.out w1 a1
                      have hb1 : b0 ≤ w1.heap.size := Nat.le_trans hb0w a1.bl.size
                      go_wp2_with fail
                      refine hvv.mono ?_
                      rintro e w2 ⟨b2, vr, rfl, hrow2⟩
                      have a2 := a1.keep hF hpb hb1 hrbF hroF b2
                      have q1 : w2.cell? ⟨p, 1, none⟩ = some (.string kb) := (a2.pblk.cell 1).trans rfl
                      have q2 : w2.cell? ⟨p, 5, none⟩ = some vo := (a2.pblk.cell 5).trans rfl
                      rcases irow_form hrow2 with ⟨_, h0⟩ | ⟨G, cg, rfl, hG, hGc⟩
                      · cases h0
                      · have g0 : w2.cell? ⟨G, 0, none⟩ = some (.int .i64 n0) := hGc 0 _ rfl
                        clear h1 h2 hvv p3
                        go_wp2_with fail
                        have HH := HI.out w2 F b0 mb m ln ⟨s1.vars, s1.steps + 1, s1.acts⟩ vo pso hF a2.ro hroF a2.so (hacts.below' hb0 a2.bl) hb0 (Nat.le_trans hb0w a2.bl.size) ⟨vac, a2.mblk, hfit, a2.scn.mono (Nat.le_succ _), a2.acts, hmb0, hm0, ha4⟩
                        rw [hrb0] at HH
                        refine HH.mono ?_
                        rintro e w3 ⟨b3, hk9, rfl, l9, hm9⟩
                        have r1 := a2.bl.trans b3
                        have r5 := a2.k3.trans hk9
                        clear HH hrow2 hGc g0 q1 q2 a1 a2
                        go_wp2_with fail
                        go_roundw
                        case rel => exact ⟨j + 1, s2, l9, by go_num, by omega, HR.out.symm, hm9, r1, r5⟩
                        case measure => simp [intOf]; omega
                  · have n0t : (!(n0 == 0)) = true := by simp [n0f]
                    cases hrb0 : runL body ⟨s1.vars, s1.steps + 1, s1.acts⟩ with
                    | error ke =>
                      obtain ⟨k9, l9⟩ := ke
                      have hr : res = .error (k9, l9) := by
                        rw [← HE.out, runS_if hfit hv hk3, if_pos n0f, hrb0]; rfl
                      have HR := Lib.hid hr
                      have HI := Lib.hid hih.1
                      clear hr hv hk1 hk2 hk3 hvs hvals
                      go_wp2_with fail
                      refine HS.out.mono ?_
                      rintro e w1 ⟨rfl, h1, h2⟩
                      have a1 := MK.out w1 h1 h2
                      have p3 : w1.cell? ⟨p, 3, none⟩ = some va := (a1.pblk.cell 3).trans rfl
                      have hvv := HV.out w1 a1
                      have hb1 : b0 ≤ w1.heap.size := Nat.le_trans hb0w a1.bl.size
                      go_wp2_with fail
                      refine hvv.mono ?_
                      rintro e w2 ⟨b2, vr, rfl, hrow2⟩
                      have a2 := a1.keep hF hpb hb1 hrbF hroF b2
                      have q1 : w2.cell? ⟨p, 1, none⟩ = some (.string kb) := (a2.pblk.cell 1).trans rfl
                      have q2 : w2.cell? ⟨p, 4, none⟩ = some vb := (a2.pblk.cell 4).trans rfl
                      rcases irow_form hrow2 with ⟨_, h0⟩ | ⟨G, cg, rfl, hG, hGc⟩
                      · cases h0
                      · have g0 : w2.cell? ⟨G, 0, none⟩ = some (.int .i64 n0) := hGc 0 _ rfl
                        clear h1 h2 hvv p3
                        go_wp2_with fail
                        have HH := HI.out w2 F b0 mb m ln ⟨s1.vars, s1.steps + 1, s1.acts⟩ vb psb hF a2.rb hrbF a2.sb (hacts.below' hb0 a2.bl) hb0 (Nat.le_trans hb0w a2.bl.size) ⟨vac, a2.mblk, hfit, a2.scn.mono (Nat.le_succ _), a2.acts, hmb0, hm0, ha4⟩
                        rw [hrb0] at HH
                        refine HH.mono ?_
                        rintro e w3 ⟨b3, hk9, rfl, hl9⟩
                        refine ⟨rfl, ?_⟩
                        unfold RetRun
                        rw [HR.out]
                        exact ⟨a2.bl.trans b3, a2.k3.trans hk9, rfl, hl9⟩
                    | ok s2 =>
                      have hr : res = runL (ss.drop (j + 1)) s2 := by
                        rw [← HE.out, runS_if hfit hv hk3, if_pos n0f, hrb0]; rfl
                      have HR := Lib.hid hr
                      have HI := Lib.hid hih.1
                      clear hr hv hk1 hk2 hk3 hvs hvals
                      go_wp2_with fail
                      refine HS.out.mono ?_
                      rintro e w1 ⟨rfl, h1, h2⟩
                      have a1 := MK.out w1 h1 h2
                      have p3 : w1.cell? ⟨p, 3, none⟩ = some va := (a1.pblk.cell 3).trans rfl
                      have hvv := HV.out w1 a1
                      have hb1 : b0 ≤ w1.heap.size := Nat.le_trans hb0w a1.bl.size
                      go_wp2_with fail
                      refine hvv.mono ?_
                      rintro e w2 ⟨b2, vr, rfl, hrow2⟩
                      have a2 := a1.keep hF hpb hb1 hrbF hroF b2
                      have q1 : w2.cell? ⟨p, 1, none⟩ = some (.string kb) := (a2.pblk.cell 1).trans rfl
                      have q2 : w2.cell? ⟨p, 4, none⟩ = some vb := (a2.pblk.cell 4).trans rfl
                      rcases irow_form hrow2 with ⟨_, h0⟩ | ⟨G, cg, rfl, hG, hGc⟩
                      · cases h0
                      · have g0 : w2.cell? ⟨G, 0, none⟩ = some (.int .i64 n0) := hGc 0 _ rfl
                        clear h1 h2 hvv p3
                        go_wp2_with fail
                        have HH := HI.out w2 F b0 mb m ln ⟨s1.vars, s1.steps + 1, s1.acts⟩ vb psb hF a2.rb hrbF a2.sb (hacts.below' hb0 a2.bl) hb0 (Nat.le_trans hb0w a2.bl.size) ⟨vac, a2.mblk, hfit, a2.scn.mono (Nat.le_succ _), a2.acts, hmb0, hm0, ha4⟩
                        rw [hrb0] at HH
                        refine HH.mono ?_
                        rintro e w3 ⟨b3, hk9, rfl, l9, hm9⟩
                        have r1 := a2.bl.trans b3
                        have r5 := a2.k3.trans hk9
                        clear HH hrow2 hGc g0 q1 q2 a1 a2
                        go_wp2_with fail
                        go_roundw
                        case rel => exact ⟨j + 1, s2, l9, by go_num, by omega, HR.out.symm, hm9, r1, r5⟩
                        case measure => simp [intOf]; omega
                · have e3 : (kb.toList == [105, 102]) = false := by rw [lit_str]; exact decide_eq_false hk3
                  have hform : ∃ aa ac0, vac = .slice aa s1.acts.length ac0 := by
                    obtain ⟨kvs, h1, _⟩ := hact0
                    rcases h1.2 with ⟨h2, h3⟩ | ⟨g, c, cur, h2, _⟩
                    · exact ⟨none, 0, by rw [h2, h3]⟩
                    · exact ⟨_, _, h2⟩
                  obtain ⟨aa, ac0, rfl⟩ := hform
                  have hres0 := runS_act (ln := ln) (nm := txt nb) (body := body) (other := other) hfit hv hk1 hk2 hk3
                  by_cases hfl : s1.acts.length = 4096
                  · have hr : res = .error (5, ln) := by rw [← HE.out, hres0, if_pos hfl]; rfl
                    have HR := Lib.hid hr
                    have e4 : ((s1.acts.length : Int) == 4096) = true := by simp [hfl]
                    clear hr hv hvs hvals hres0 hact0
                    have HFL := Lib.hid hfl
                    clear hfl
                    go_wp2_with fail
                    refine HS.out.mono ?_
                    rintro e w1 ⟨rfl, h1, h2⟩
                    have a1 := MK.out w1 h1 h2
                    have p3 : w1.cell? ⟨p, 3, none⟩ = some va := (a1.pblk.cell 3).trans rfl
                    have hvv := HV.out w1 a1
                    have hb1 : b0 ≤ w1.heap.size := Nat.le_trans hb0w a1.bl.size
                    go_wp2_with fail
                    refine hvv.mono ?_
                    rintro e w2 ⟨b2, vr, rfl, hrow2⟩
                    have a2 := a1.keep hF hpb hb1 hrbF hroF b2
                    have q1 : w2.cell? ⟨p, 1, none⟩ = some (.string kb) := (a2.pblk.cell 1).trans rfl
                    have m2 : w2.cell? ⟨mb, 2, none⟩ = some (.slice aa s1.acts.length ac0) := (Blk.cell a2.mblk 2).trans rfl
                    clear h1 h2 hvv p3
                    go_wp2_with (go_at_call 105; refine (fail_any 5 _).mono ?_; rintro e w' ⟨rfl, rfl⟩)
                    refine ⟨rfl, ?_⟩
                    unfold RetRun
                    rw [HR.out]
                    exact ⟨a2.bl, a2.k3, rfl, (Blk.cell a2.mblk 3).trans rfl⟩
                  · have hr : res = runL (ss.drop (j + 1)) ⟨s1.vars, s1.steps + 1, s1.acts ++ [makeActL (actOfL (txt kb)) l]⟩ := by rw [← HE.out, hres0, if_neg hfl]; rfl
                    have HR := Lib.hid hr
                    have e4 : ((s1.acts.length : Int) == 4096) = false := by simp; omega
                    have hle := actOf_le (txt kb)
                    have h5 : l.length ≤ 16 ∧ (actOfL (txt kb) ≠ 17 → l.length ≤ 5) := by rw [hvs.1]; unfold ArgOk at hok; rw [if_neg hk1, if_neg hk2, if_neg hk3] at hok; exact hok
                    obtain ⟨f0, f1, f2, f3, f4, kp, hmk⟩ := makeL_form (actOfL (txt kb)) l
                    obtain ⟨i24, hi24, hz0, hz1, hz2⟩ := info_parts info24
                    have H5 := Lib.hid h5
                    have HMK := Lib.hid hmk
                    have ha5 : s1.acts.length < 4096 := by omega
                    have HLE := Lib.hid hle
                    clear hr hv hvs hvals hres0 hact0 h5 hmk hle hfl
                    have HOK := Lib.hid hok
                    clear hok hal
                    go_wp2_with fail
                    refine HS.out.mono ?_
                    rintro e w1 ⟨rfl, h1, h2⟩
                    have a1 := MK.out w1 h1 h2
                    have p3 : w1.cell? ⟨p, 3, none⟩ = some va := (a1.pblk.cell 3).trans rfl
                    have hvv := HV.out w1 a1
                    have hb1 : b0 ≤ w1.heap.size := Nat.le_trans hb0w a1.bl.size
                    go_wp2_with fail
                    refine hvv.mono ?_
                    rintro e w2 ⟨b2, vr, rfl, hrow2⟩
                    have a2 := a1.keep hF hpb hb1 hrbF hroF b2
                    have q1 : w2.cell? ⟨p, 1, none⟩ = some (.string kb) := (a2.pblk.cell 1).trans rfl
                    have m2 : w2.cell? ⟨mb, 2, none⟩ = some (.slice aa s1.acts.length ac0) := (Blk.cell a2.mblk 2).trans rfl
                    clear h1 h2 hvv p3
                    obtain ⟨kvs, hrowA, hkeepA⟩ := a2.acts
                    have hb2 : b0 ≤ w2.heap.size := Nat.le_trans hb1 b2.size
                    have AO := Lib.hid (show ∀ W, Below w2.heap.size w2 W → Calls Tryz.prog 44 #[.string kb] W (fun e w' => e = .returned (.int .i64 (actOfL (txt kb))) ∧ Below w2.heap.size w2 w') from fun W hW =>
                      (actOf_any ((hacts.below' hb0 a2.bl).below hW) kb).mono fun e w' ⟨h1, h2⟩ => ⟨h1, hW.trans (h2.mono hW.size)⟩)
                    have MA := Lib.hid (show ∀ W, Below w2.heap.size w2 W → Calls Tryz.prog 46 #[.int .i64 (actOfL (txt kb)), vr] W (fun e w' => ∃ kv, e = .returned (.agg #[.int .i64 (actOfL (txt kb)), .int .i64 f0, .int .i64 f1, .int .i64 f2, .int .i64 f3, .int .i64 f4, kv]) ∧ IRow w' b0 kv kp ∧ Below w2.heap.size w2 w') from fun W hW => by
                      have h := makeAct_any (actOfL (txt kb)) (row_stays (M := fun _ => False) hrow2 (.of hW) (fun _ _ h => h)) HLE.out H5.out.1 H5.out.2
                      rw [HMK.out] at h
                      exact h.mono fun e w' ⟨h1, kv, h2, h3⟩ => ⟨kv, h2, row_base h3 (Nat.le_trans hb2 hW.size), hW.trans (h1.mono hW.size)⟩)
                    have RW := Lib.hid (show ∀ W, Below w2.heap.size w2 W → W.ownsRow b0 24 7 (.slice aa s1.acts.length ac0) s1.acts.length (actsCells s1.acts kvs) from fun W hW => row_stays (M := fun _ => False) hrowA (.of hW) (fun _ _ h => h))
                    have PU := Lib.hid (show ∀ wq, Below w2.heap.size w2 wq → ∀ kv, IRow wq b0 kv kp → ∀ w4 nv cs, (wq.alloc (.cells cs 24)).grownBy w4 (Value.slice aa s1.acts.length ac0).ownBlock → w4.ownsRow b0 24 7 nv (s1.acts.length + 1) (actsCells s1.acts kvs ++ [.int .i64 (actOfL (txt kb)), .int .i64 f0, .int .i64 f1, .int .i64 f2, .int .i64 f3, .int .i64 f4, kv]) → _ from fun wq hq kv hkv w4 nv cs hg ho =>
                      acts_push (a := ⟨actOfL (txt kb), [f0, f1, f2, f3, f4], kp⟩) (Nat.le_trans hb2 hq.size) hmb0 (Blk.below a2.mblk hq) ((a2.scn.below hq).mono (Nat.le_succ _)) (RW.out wq hq) (hkeepA.typed (fun k cur z h => hq.block k (Array.getElem?_eq_some_iff.1 h).1)) hkv rfl hg ho)
                    have PC := Lib.hid (show ∀ W, Below b0 w W → W.cell? ⟨p, 1, none⟩ = some (.string kb) from fun W hW => (hW.cell (p := ⟨p, 1, none⟩) hpb).trans ((Blk.cell hblk 1).trans rfl))
                    have S0 := Lib.hid (show ∀ W, Below w2.heap.size w2 W → W.cell? ⟨mb, 2, none⟩ = some (.slice aa s1.acts.length ac0) ∧ W.cell? ⟨p, 1, none⟩ = some (.string kb) ∧ W.frozen? ⟨mb, 2, none⟩ = false from fun W hW => ⟨cell_below m2 hW, cell_below q1 hW, Blk.frozen (Blk.below a2.mblk hW) 2⟩)
                    go_upto_region 8 with fail
                    go_region_law
                      (first
                        | (go_simp; (with_reducible refine (AO.out _ (by repeat (first | assumption | (with_reducible exact Below.refl _ _) | (with_reducible apply Below.drew)))).mono ?_); rintro e wp ⟨rfl, bp⟩; have m4 := S0.out wp bp; dsimp only)
                        | (go_simp; (with_reducible refine (MA.out _ (by assumption)).mono ?_); rintro e wq ⟨kv, rfl, hkv, bq⟩; obtain ⟨ka, kn, kc, rfl⟩ := irow_slice hkv; have m5 := S0.out wq bq; have m6 : ∀ o, (wq.alloc o).cell? ⟨mb, 2, none⟩ = some (.slice aa s1.acts.length ac0) := fun o => (S0.out _ (alloc2 bq o)).1; dsimp only)
                        | (refine step_append_lies _ rfl (.tmp 41) (.tmp 49) 56 rfl b0 24 i24 (.agg #[.int .i64 0, .int .i64 0, .int .i64 0, .int .i64 0, .int .i64 0, .int .i64 0, .slice none 0 0]) 7 72 Tryz.underlying56 hi24 hz0 hz1 hz2 rfl (by decide) _ _ _ rfl ((RW.out wq bq).alloc _) ⟨wq.heap.size, 0, none⟩ 1 1 [.int .i64 (actOfL (txt kb)), .int .i64 f0, .int .i64 f1, .int .i64 f2, .int .i64 f3, .int .i64 f4, .slice ka kn kc] rfl rfl (World.news_of_block (heap_alloc_new wq _)) (by simp [Value.oneCell']) (by decide) (by unfold maxLen; omega) (by omega) (by have := bq.size; simp; omega) _ rfl ?_; intro g cap4 w4 hown4 hgr hat hlt4; obtain ⟨x1, x2, x3, x4, x5, x6, x7, x8⟩ := PU.out wq bq _ hkv w4 _ _ hgr hown4; have x9 := PC.out w4 ((a2.bl.trans (bq.mono hb2)).trans x7); have x10 := PC.out _ ((a2.bl.trans (bq.mono hb2)).trans x1); have x11 := Blk.frozen x2 2))
                    all_goals
                      clear m4 m5 m6 x5 x6 x9 x10 x11 hown4 hgr hat
                      go_wp2_with fail
                      go_roundw
                      case rel => exact ⟨j + 1, ⟨s1.vars, s1.steps + 1, s1.acts ++ [makeActL (actOfL (txt kb)) l]⟩, ln, by go_num, by omega, HR.out.symm, ⟨_, x2, hfit, x3, by rw [HMK.out]; exact x4, hmb0, hm0, by simp; omega⟩, a2.bl.trans ((bq.mono hb2).trans x1), a2.k3.trans ((Kept3.below bq).trans x8)⟩
                      case measure => simp [intOf]; omega
      · have hkk : j = ps.length := by omega
        have hr : res = .ok s1 := by rw [← hev, List.drop_of_length_le (by have := HPL.out; omega), runL_nil]
        have HR := Lib.hid hr
        clear hr hev
        go_wp2_with fail
        go_end0
        unfold RetRun
        rw [HR.out]
        exact ⟨hbl, hq3, rfl, line1, hm1⟩
mutual
theorem stm_run : ∀ (s : Stm) (line : Nat) (kind name : List UInt8) (args : List Ex) (body other : List Stm), s = .mk line kind name args body other → RunC body ∧ RunC other
  | .mk line kind name args body other, l, k, n, a, b, o, h => by
    have hb := run_round body (stms_run body)
    have ho := run_round other (stms_run other)
    injection h with _ _ _ _ h5 h6
    subst h5; subst h6
    exact ⟨hb, ho⟩
theorem stms_run : ∀ (ss : List Stm) (line : Nat) (kind name : List UInt8) (args : List Ex) (body other : List Stm), Stm.mk line kind name args body other ∈ ss → RunC body ∧ RunC other
  | [], _, _, _, _, _, _, h => by cases h
  | s :: ss, l, k, n, a, b, o, h => by
    have h1 := stm_run s
    have h2 := stms_run ss
    rcases List.mem_cons.1 h with h | h
    · exact h1 l k n a b o h.symm
    · exact h2 l k n a b o h
end
theorem run_all (ss : List Stm) : RunC ss := run_round ss (stms_run ss)
end Go.Proofs.YtddnmocoaahlfaaGreatDoor
