/-
  The reference's SamePlant at equal plants. No condition but that the rows of strings lie in memory.
  The reference's line of numbers, and the law's own look at a plant's strings.
  join, where the further words lie in whatever block.
  A region that draws its order, each operation of which says of its value what later operations keep: whatever the order, all is said at the end.
  What the operations of such a region say of their values: addresses, loads, rows that are written out, calls that return texts, texts put together.
  PlantText.
  What a text of a plant that is parsed tells of its numbers and its length, in plain Lean.
  Parse.
  The law ScriptOnly, walked.
  The law ScriptBack, walked. Conditions: the bounds that each states; the package-level variables hold what the program lays; few and short strings; the numbers are ints; lines of at most 65536 bytes; the arguments lie in memory.
-/
import Derived.Test.YtddnmocoaahlfaaGreatDoorY36
import Derived.Test.YtddnmocoaahlfaaGreatDoorZr
import Derived.BigRegion
import Derived.Test.YtddnmocoaahlfaaGreatDoorLine2
import Derived.OrdersHeld
import Derived.Test.YtddnmocoaahlfaaGreatDoorY33
import Derived.Deep.DeepCutAuto
import Derived.Test.YtddnmocoaahlfaaGreatDoorPlI
import Derived.Test.YtddnmocoaahlfaaGreatDoorZt
set_option linter.unusedVariables false
set_option linter.unusedSimpArgs false
namespace Go.Proofs.YtddnmocoaahlfaaGreatDoor
open Go.RowKit Go.Shelf
theorem srw_cap {w : World} {p : Option Addr} {n c : Nat} {l : List ByteArray} (h : SRw w (.slice p n c) l) : l = [] ∨ l.length ≤ c := by
  rcases h with ⟨rfl, _⟩ | ⟨_, L, o, c', h1, h2, h3⟩
  · exact .inl rfl
  · injection h1 with _ _ h1
    subst h1
    exact .inr h2
end Go.Proofs.YtddnmocoaahlfaaGreatDoor
namespace Go.Proofs.YtddnmocoaahlfaaGreatDoor
open Go.RowKit Go.Shelf
end Go.Proofs.YtddnmocoaahlfaaGreatDoor
namespace Go.Proofs.YtddnmocoaahlfaaGreatDoor
open Go.RowKit Go.Shelf
end Go.Proofs.YtddnmocoaahlfaaGreatDoor
namespace Go.Proofs.YtddnmocoaahlfaaGreatDoor
open Go.RowKit
def dstOf (ops : Array Oper) (i : Nat) : Option Tmp := (ops[i]?).bind (·.dst)
def laid (ops : Array Oper) (vals : Nat → Value) (L : Nat → Bool) (a : Act) : Nat → Act
  | 0 => a
  | n + 1 => if L n then (laid ops vals L a n).put (dstOf ops n) (vals n) else laid ops vals L a n
theorem laid_congr {ops : Array Oper} {vals vals' : Nat → Value} {L L' : Nat → Bool} {a : Act} : ∀ n, (∀ i, i < n → L i = L' i ∧ (L i = true → vals i = vals' i)) → laid ops vals L a n = laid ops vals' L' a n
  | 0, _ => rfl
  | n + 1, h => by
    have ih := laid_congr (ops := ops) (vals := vals) (vals' := vals') (L := L) (L' := L') (a := a) n (fun i hi => h i (by omega))
    obtain ⟨h1, h2⟩ := h n (by omega)
    unfold laid
    rw [ih, ← h1]
    cases hL : L n with
    | true => rw [if_pos rfl, if_pos rfl, h2 hL]
    | false => rw [if_neg (by simp), if_neg (by simp)]
def updV (f : Nat → Value) (i : Nat) (v : Value) : Nat → Value := fun j => if j = i then v else f j
def updL (L : Nat → Bool) (i : Nat) : Nat → Bool := fun j => if j = i then true else L j
theorem laid_put {ops : Array Oper} {vals : Nat → Value} {L : Nat → Bool} {a : Act} {i : Nat} {v : Value} (hL : L i = false) (hd : ∀ j, j ≠ i → ∀ d, dstOf ops i = some d → dstOf ops j ≠ some d) : ∀ n, i < n → laid ops (updV vals i v) (updL L i) a n = (laid ops vals L a n).put (dstOf ops i) v
  | 0, h => by omega
  | n + 1, h => by
    by_cases hn : n = i
    · subst hn
      unfold laid
      have hc : laid ops (updV vals n v) (updL L n) a n = laid ops vals L a n := laid_congr n (fun j hj => by
        unfold updL updV
        rw [if_neg (by omega), if_neg (by omega)]
        exact ⟨rfl, fun _ => rfl⟩)
      rw [hc, if_pos (by simp [updL]), hL, if_neg (by simp)]
      simp [updV]
    · have ih := laid_put (vals := vals) (a := a) (v := v) hL hd n (by omega)
      unfold laid
      have e1 : updL L i n = L n := by unfold updL; rw [if_neg hn]
      have e2 : updV vals i v n = vals n := by unfold updV; rw [if_neg hn]
      rw [e1, e2, ih]
      cases L n with
      | true =>
        rw [if_pos rfl, if_pos rfl]
        exact Act.put_comm _ _ _ (fun d h1 h2 => hd n hn d h1 h2)
      | false => rw [if_neg (by simp), if_neg (by simp)]
theorem laid_size {ops : Array Oper} {vals : Nat → Value} {L : Nat → Bool} {a : Act} : ∀ n, (laid ops vals L a n).tmps.size = a.tmps.size
  | 0 => rfl
  | n + 1 => by
    have ih := laid_size (ops := ops) (vals := vals) (L := L) (a := a) n
    unfold laid
    split
    · unfold Act.put
      split
      · simpa using ih
      · exact ih
    · exact ih
theorem laid_out {ops : Array Oper} {vals : Nat → Value} {L : Nat → Bool} {a : Act} {t : Tmp} : ∀ n, (∀ j, j < n → L j = true → dstOf ops j ≠ some t) → (laid ops vals L a n).eval (.tmp t) = a.eval (.tmp t)
  | 0, _ => rfl
  | n + 1, h => by
    have ih := laid_out (vals := vals) (L := L) (a := a) n (fun j hj => h j (by omega))
    unfold laid
    split
    · rename_i hL
      rw [Act.eval_put (fun d hd e => by injection e with e; subst e; exact h n (by omega) hL hd)]; exact ih
    · exact ih
theorem eval_put_same {a : Act} {d : Tmp} {v : Value} (h : d < a.tmps.size) : (a.put (some d) v).eval (.tmp d) = v := by simp [Act.eval, Act.put, h]
theorem laidv_at {ops : Array Oper} {vals : Nat → Value} {L : Nat → Bool} {a : Act} {i : Nat} {d : Tmp} (hi : L i = true) (hd : dstOf ops i = some d) (hs : d < a.tmps.size) (hdd : ∀ j, j ≠ i → dstOf ops j ≠ some d) : ∀ n, i < n → (laid ops vals L a n).eval (.tmp d) = vals i
  | 0, h => by omega
  | n + 1, h => by
    unfold laid
    by_cases hn : n = i
    · subst hn
      rw [if_pos hi, hd]
      exact eval_put_same (by rw [laid_size]; exact hs)
    · have ih := laidv_at (vals := vals) hi hd hs hdd n (by omega)
      split
      · rw [Act.eval_put (fun e he h2 => by injection h2 with h2; subst h2; exact hdd n hn he)]; exact ih
      · exact ih
structure FineOps (ops : Array Oper) (n : Nat) : Prop where
  guard : ∀ (i : Nat) (o : Oper), ops[i]? = some o → o.guard = none
  apart : ∀ i j, i ≠ j → ∀ d, dstOf ops i = some d → dstOf ops j ≠ some d
  inside : ∀ i d, dstOf ops i = some d → d < n
  acyc : ∀ (i : Nat) (o : Oper), ops[i]? = some o → ∀ e ∈ o.after, e.on < i
theorem dst_lt {ops : Array Oper} {i : Nat} {d : Tmp} (h : dstOf ops i = some d) : i < ops.size := by
  unfold dstOf at h
  cases ho : ops[i]? with
  | none => rw [ho] at h; cases h
  | some o => exact (Array.getElem?_eq_some_iff.1 ho).1
section
variable {P : Program} {ops : Array Oper} {Q : Exit → Act → World → Prop}
structure Done (ops : Array Oper) (G : Nat → Value → World → Prop) (a0 : Act) (w0 : World) (listed : Array Bool) (vals : Nat → Value) (w : World) : Prop where
  size : listed.size = ops.size
  below : Below w0.heap.size w0 w
  said : ∀ i, i < ops.size → listed.getD i true = true → G i (vals i) w
  closed : ∀ (j : Nat) (oj : Oper), ops[j]? = some oj → listed.getD j true = true → ∀ e ∈ oj.after, Region.binds .any e = true → listed.getD e.on true = true
def OpSays (P : Program) (ops : Array Oper) (Q : Exit → Act → World → Prop) (G : Nat → Value → World → Prop) (a0 : Act) (w0 : World) (i : Nat) (o : Oper) : Prop :=
  ∀ (a : Act) (w : World) (vals : Nat → Value), (∀ t, (∀ (j : Nat) (oj : Oper), ops[j]? = some oj → oj.dst = some t → ∃ e ∈ oj.after, e.on = i ∧ Region.binds .any e = true) → a.eval (.tmp t) = a0.eval (.tmp t)) →
    (∀ e ∈ o.after, Region.binds .any e = true → ∀ d, dstOf ops e.on = some d → a.eval (.tmp d) = vals e.on ∧ G e.on (vals e.on) w) → Below w0.heap.size w0 w →
    o.wp P a w (fun a' w' => ∃ v, a' = a.put o.dst v ∧ G i v w' ∧ Below w.heap.size w w') Q
def cntR (f : Nat → Bool) : Nat → Nat
  | 0 => 0
  | n + 1 => cntR f n + if f n then 0 else 1
theorem cntR_congr {f g : Nat → Bool} : ∀ n, (∀ i, i < n → f i = g i) → cntR f n = cntR g n
  | 0, _ => rfl
  | n + 1, h => by
    have ih := cntR_congr (f := f) (g := g) n (fun i hi => h i (by omega))
    unfold cntR
    rw [ih, h n (by omega)]
theorem cntR_upd {f : Nat → Bool} {i : Nat} (hf : f i = false) : ∀ n, i < n → cntR (updL f i) n + 1 = cntR f n
  | 0, h => by omega
  | n + 1, h => by
    unfold cntR
    by_cases hn : n = i
    · subst hn
      have hc : cntR (updL f n) n = cntR f n := cntR_congr n (fun j hj => by unfold updL; rw [if_neg (by omega)])
      have e : updL f n n = true := by simp [updL]
      rw [hc, e, hf]; simp
    · have ih := cntR_upd hf n (by omega)
      have e : updL f i n = f n := by unfold updL; rw [if_neg hn]
      rw [e]; omega
theorem cntR_zero {f : Nat → Bool} : ∀ n, cntR f n = 0 → ∀ i, i < n → f i = true
  | 0, _ => fun i hi => by omega
  | n + 1, h => fun i hi => by
    unfold cntR at h
    by_cases hn : i = n
    · subst hn
      cases hf : f i with
      | true => rfl
      | false => rw [hf] at h; simp at h
    · exact cntR_zero n (by omega) i (by omega)
theorem getD_flip {listed : Array Bool} {i : Nat} (h : i < listed.size) : listed.getD i true = listed.getD i false := by simp [h]
theorem getD_set_self {listed : Array Bool} {i : Nat} (h : i < listed.size) (d : Bool) : (listed.setIfInBounds i true).getD i d = true := by simp [h]
theorem laid_none {ops : Array Oper} {vals : Nat → Value} {L : Nat → Bool} {a : Act} : ∀ n, (∀ i, i < n → L i = false) → laid ops vals L a n = a
  | 0, _ => rfl
  | n + 1, h => by
    have ih := laid_none (ops := ops) (vals := vals) (L := L) (a := a) n (fun i hi => h i (by omega))
    unfold laid
    rw [h n (by omega), if_neg (by simp)]
    exact ih
theorem oper_val {o : Oper} {a : Act} {w w' : World} {K : Act → World → Prop} (S : Sem Value) (hex : execOp a.eval o = (do pure (.value (← S)))) (v : Value) (hrun : S.run P w = .ok v w') (h : K (a.put o.dst v) w') : o.wp P a w K Q := by
  unfold Oper.wp
  simp only [hex, Sem.run_bind, Sem.run_pure, hrun, Result.andThen_ok]
  exact h
theorem oper_same {o : Oper} {a : Act} {w : World} {K : Act → World → Prop} (v : Value) (hex : execOp a.eval o = pure (.value v)) (h : K (a.put o.dst v) w) : o.wp P a w K Q := by
  unfold Oper.wp
  simp only [hex, Sem.run_pure]
  exact h
end
end Go.Proofs.YtddnmocoaahlfaaGreatDoor
namespace Go.Proofs.YtddnmocoaahlfaaGreatDoor
open Go.RowKit Go.Shelf
inductive Say where
  | val (v : Value)
  | row (l : List Int)
  | one (s : ByteArray)
  | str (t : List UInt8)
  | rows (ls : List (List UInt8))
def Say.holds : Say → Value → World → Prop
  | .val u, v, _ => v = u
  | .row l, v, w => ∃ D, v = .slice (some ⟨D, 0, none⟩) l.length l.length ∧ Blk w D (l.map (fun n => Value.int .i64 n)).toArray 3
  | .one s, v, w => ∃ D, v = .slice (some ⟨D, 0, none⟩) 1 1 ∧ Blk w D #[.string s] 9
  | .str t, v, _ => ∃ s : ByteArray, v = .string s ∧ txt s = t
  | .rows ls, v, w => ∃ (D : Nat) (ss : List ByteArray), v = .slice (some ⟨D, 0, none⟩) ss.length ss.length ∧ Blk w D (ss.map Value.string).toArray 9 ∧ ss.map txt = ls
theorem Say.stable (s : Say) {v : Value} {w w' : World} (h : s.holds v w) (b : Below w.heap.size w w') : s.holds v w' := by
  cases s with
  | val u => exact h
  | row l => obtain ⟨D, h1, h2⟩ := h; exact ⟨D, h1, h2.below b⟩
  | one s => obtain ⟨D, h1, h2⟩ := h; exact ⟨D, h1, h2.below b⟩
  | str t => exact h
  | rows ls => obtain ⟨D, ss, h1, h2, h3⟩ := h; exact ⟨D, ss, h1, h2.below b, h3⟩
def OpIs (ops : Array Oper) (i : Nat) (op : Op) (d : Tmp) (deps : List Nat) : Prop := ∃ o, ops[i]? = some o ∧ o.op = op ∧ o.dst = some d ∧ ∀ j ∈ deps, ∃ e ∈ o.after, e.on = j ∧ Region.binds .any e = true
theorem OpIs.dst {ops : Array Oper} {i : Nat} {op : Op} {d : Tmp} {deps : List Nat} (h : OpIs ops i op d deps) : dstOf ops i = some d := by
  obtain ⟨o, ho, _, hd, _⟩ := h
  unfold dstOf; rw [ho]; exact hd
def depsOk (o : Oper) (deps : List Nat) : Bool := deps.all fun j => o.after.any fun e => e.on == j && Region.binds .any e
theorem depsOk_spec {o : Oper} {deps : List Nat} (h : depsOk o deps = true) : ∀ j ∈ deps, ∃ e ∈ o.after, e.on = j ∧ Region.binds .any e = true := by
  intro j hj
  have h1 := List.all_eq_true.1 h j hj
  obtain ⟨e, he, hb⟩ := Array.any_eq_true'.1 h1
  simp only [Bool.and_eq_true, beq_iff_eq] at hb
  exact ⟨e, he, hb.1, hb.2⟩
theorem region_open {P : Program} {id : Nat} {X : Array Oper} {Q : Exit → Act → World → Prop} {a : Act} {w : World} (h : ∀ ops, ops = X → ∀ a0, a0 = a → (Code.region id ops true).wp P Q a0 w) : (Code.region id X true).wp P Q a w := h X rfl a rfl
def noDst (ops : Array Oper) (x : Tmp) : Bool := ops.all fun o => o.dst != some x
theorem noDst_spec {ops : Array Oper} {x : Tmp} (h : noDst ops x = true) (j : Nat) : dstOf ops j ≠ some x := by
  unfold dstOf
  cases ho : ops[j]? with
  | none => simp
  | some o =>
    have := Array.all_eq_true_iff_forall_mem.1 h o (Array.mem_of_getElem? ho)
    simpa using this
section
variable {P : Program} {ops : Array Oper} {Q : Exit → Act → World → Prop} {says : Nat → Say} {a0 : Act} {w0 : World}
structure Come (ops : Array Oper) (says : Nat → Say) (a0 : Act) (w0 : World) (i : Nat) (deps : List Nat) (a : Act) (w : World) : Prop where
  late : ∀ t, (∀ (j : Nat) (oj : Oper), ops[j]? = some oj → oj.dst = some t → ∃ e ∈ oj.after, e.on = i ∧ Region.binds .any e = true) → a.eval (.tmp t) = a0.eval (.tmp t)
  inn : ∀ j ∈ deps, ∀ d, dstOf ops j = some d → (says j).holds (a.eval (.tmp d)) w
  below : Below w0.heap.size w0 w
theorem Come.out {i : Nat} {deps : List Nat} {a : Act} {w : World} (hc : Come ops says a0 w0 i deps a w) (x : Tmp) (h : ∀ j, dstOf ops j ≠ some x) : a.eval (.tmp x) = a0.eval (.tmp x) :=
  hc.late x fun j oj hoj hd => absurd (show dstOf ops j = some x by unfold dstOf; rw [hoj]; exact hd) (h j)
theorem Come.val {i : Nat} {deps : List Nat} {a : Act} {w : World} (hc : Come ops says a0 w0 i deps a w) {j : Nat} {d : Tmp} {v : Value} (hj : j ∈ deps) (hd : dstOf ops j = some d) (hs : says j = .val v) : a.eval (.tmp d) = v := by
  have := hc.inn j hj d hd
  rw [hs] at this
  exact this
theorem Come.str {i : Nat} {deps : List Nat} {a : Act} {w : World} (hc : Come ops says a0 w0 i deps a w) {j : Nat} {d : Tmp} {t : List UInt8} (hj : j ∈ deps) (hd : dstOf ops j = some d) (hs : says j = .str t) : ∃ s : ByteArray, a.eval (.tmp d) = .string s ∧ txt s = t := by
  have := hc.inn j hj d hd
  rw [hs] at this
  exact this
theorem Come.row {i : Nat} {deps : List Nat} {a : Act} {w : World} (hc : Come ops says a0 w0 i deps a w) {j : Nat} {d : Tmp} {l : List Int} (hj : j ∈ deps) (hd : dstOf ops j = some d) (hs : says j = .row l) : ∃ D, a.eval (.tmp d) = .slice (some ⟨D, 0, none⟩) l.length l.length ∧ Blk w D (l.map (fun n => Value.int .i64 n)).toArray 3 := by
  have := hc.inn j hj d hd
  rw [hs] at this
  exact this
theorem Come.one {i : Nat} {deps : List Nat} {a : Act} {w : World} (hc : Come ops says a0 w0 i deps a w) {j : Nat} {d : Tmp} {s : ByteArray} (hj : j ∈ deps) (hd : dstOf ops j = some d) (hs : says j = .one s) : ∃ D, a.eval (.tmp d) = .slice (some ⟨D, 0, none⟩) 1 1 ∧ Blk w D #[.string s] 9 := by
  have := hc.inn j hj d hd
  rw [hs] at this
  exact this
end
theorem ent3r {f : FuncId} (he : Enters Tryz.prog f) (x y z : Operand) (ats : Array TypeId) (ρ : Operand → Value) (e : ρ (.func f) = .func (.func f) #[] #[]) (o : Oper) (w : World) (ho : o.op = .call { callee := .value (.func f), args := #[x, y, z], argTypes := ats }) : (execOp ρ o).run Tryz.prog w = .ok (.enter f #[ρ x, ρ y, ρ z]) w := by
  unfold execOp
  rw [ho]
  simp [resolve, invoke, e, Deferred.ofValue, go_sem, he #[ρ x, ρ y, ρ z] w]
theorem ent3 {f : FuncId} (he : Enters Tryz.prog f) (x y z : Operand) (ats : Array TypeId) (a0 : Act) (o : Oper) (w : World) (ho : o.op = .call { callee := .value (.func f), args := #[x, y, z], argTypes := ats }) : (execOp a0.eval o).run Tryz.prog w = .ok (.enter f #[a0.eval x, a0.eval y, a0.eval z]) w :=
  ent3r he x y z ats a0.eval (by simp [Act.eval]) o w ho
theorem eval_const (a : Act) (v : Value) : a.eval (.const v) = v := by simp [Act.eval]
theorem follows_mixed : Tryz.prog.follows .mixedOrders = true := by kernel_rfl
theorem ld3 (R k : Nat) (v : Value) (w : World) (h : w.cell? ⟨R, k, none⟩ = some v) : (Instr.loadAt 3 (.pointer (some ⟨R, k, none⟩))).run Tryz.prog w = .ok v w := by simp [go_sem, Instr.loadAt, Instr.sureAddr, h]
theorem ld9 (R k : Nat) (v : Value) (w : World) (h : w.cell? ⟨R, k, none⟩ = some v) : (Instr.loadAt 9 (.pointer (some ⟨R, k, none⟩))).run Tryz.prog w = .ok v w := by simp [go_sem, Instr.loadAt, Instr.sureAddr, h]
end Go.Proofs.YtddnmocoaahlfaaGreatDoor
namespace Go.Proofs.YtddnmocoaahlfaaGreatDoor
open Go.RowKit Go.Shelf
end Go.Proofs.YtddnmocoaahlfaaGreatDoor
namespace Go.Proofs.YtddnmocoaahlfaaGreatDoor
end Go.Proofs.YtddnmocoaahlfaaGreatDoor
namespace Go.Proofs.YtddnmocoaahlfaaGreatDoor
open Go.RowKit Go.Shelf
end Go.Proofs.YtddnmocoaahlfaaGreatDoor
namespace Go.Proofs.YtddnmocoaahlfaaGreatDoor
open Go.RowKit Go.Shelf
theorem RetTE.zero {w : World} {t : List UInt8} {r : List UInt8 × Int} {e : Ending} {w' : World} (h : RetTE w r e w') (hr : r = (t, 0)) : Below w.heap.size w w' ∧ ∃ s : ByteArray, e = .returned (.tuple #[.string s, .int .i64 0]) ∧ txt s = t := by
  subst hr
  exact h
end Go.Proofs.YtddnmocoaahlfaaGreatDoor
namespace Go.Proofs.YtddnmocoaahlfaaGreatDoor
open Go.RowKit Go.Shelf
theorem wpList_valG {P : Program} {w w' : World} {ops : Array Oper} {rest : List Oper} {o : Oper} {a : Act} {Q : Exit → Act → World → Prop} (hw : Region.wanted o (yielded ops a.tmps) = true) (S : Sem Value) (hex : execOp a.eval o = (do pure (.value (← S))))
    (v : Value) (hrun : S.run P w = .ok v w') (h : wpList P ops Q rest (a.put o.dst v) w') : wpList P ops Q (o :: rest) a w := by
  refine wpList_step fun K hK => ?_
  simp only [hw, if_true]
  unfold Oper.wp
  simp only [hex, Sem.run_bind, Sem.run_pure, hrun, Result.andThen_ok]
  exact hK _ _ h
end Go.Proofs.YtddnmocoaahlfaaGreatDoor
