/-
  The reference's line of numbers, and the law's own look at a plant's strings. Conditions: the bounds that each states.
  join, where the further words lie in whatever block. Conditions: the package-level variables hold what the program lays.
  A region that draws its order, each operation of which says of its value what later operations keep: whatever the order, all is said at the end. No condition.
  What the operations of such a region say of their values: addresses, loads, rows that are written out, calls that return texts, texts put together. No condition.
  PlantText. Conditions: the package-level variables hold what the program lays; few and short strings; the numbers are ints.
  What a text of a plant that is parsed tells of its numbers and its length, in plain Lean. No condition; no program in sight.
  Parse. Conditions: the package-level variables hold what the program lays; lines of at most 65536 bytes.
  The law ScriptOnly, walked. Conditions: the package-level variables hold what the program lays.
  The reference's SamePlant at equal plants. No condition but that the rows of strings lie in memory.
  The law ScriptBack, walked. Conditions: the package-level variables hold what the program lays; the arguments lie in memory.
-/
import Derived.Test.YtddnmocoaahlfaaGreatDoorZr
import Derived.Test.YtddnmocoaahlfaaGreatDoorY14
import Derived.Test.YtddnmocoaahlfaaGreatDoorLine2
import Derived.OrdersHeld
import Derived.Test.YtddnmocoaahlfaaGreatDoorY8
import Derived.Deep.DeepCutAuto
import Derived.Test.YtddnmocoaahlfaaGreatDoorY23
import Derived.Test.YtddnmocoaahlfaaGreatDoorPlI
import Derived.Test.YtddnmocoaahlfaaGreatDoorZt
import Derived.BigRegion
set_option linter.unusedVariables false
set_option linter.unusedSimpArgs false

namespace Go.Proofs.YtddnmocoaahlfaaGreatDoor
open Go.RowKit Go.Shelf
end Go.Proofs.YtddnmocoaahlfaaGreatDoor
namespace Go.Proofs.YtddnmocoaahlfaaGreatDoor
open Go.RowKit Go.Shelf
end Go.Proofs.YtddnmocoaahlfaaGreatDoor
namespace Go.Proofs.YtddnmocoaahlfaaGreatDoor
open Go.RowKit
/-- Where an operation leaves its value. -/
def dstOf (ops : Array Oper) (i : Nat) : Option Tmp := (ops[i]?).bind (·.dst)
/-- The values of those operations among the first n that have come up, laid in the text's order. -/
def laid (ops : Array Oper) (vals : Nat → Value) (L : Nat → Bool) (a : Act) : Nat → Act
  | 0 => a
  | n + 1 => if L n then (laid ops vals L a n).put (dstOf ops n) (vals n) else laid ops vals L a n
theorem laid_congr {ops : Array Oper} {vals vals' : Nat → Value} {L L' : Nat → Bool} {a : Act} : ∀ n, (∀ i, i < n → L i = L' i ∧ (L i = true → vals i = vals' i)) → laid ops vals L a n = laid ops vals' L' a n
  | 0, _ => rfl
  | n + 1, h => by
    have ih := laid_congr (ops := ops) (vals := vals) (vals' := vals') (L := L) (L' := L') (a := a) n (fun i hi => h i (by omega))
    obtain ⟨h1, h2⟩ := h n (by omega)
    unfold laid
    rw [ih, ← h1]
    cases hL : L n with
    | true => rw [if_pos rfl, if_pos rfl, h2 hL]
    | false => rw [if_neg (by simp), if_neg (by simp)]
def updV (f : Nat → Value) (i : Nat) (v : Value) : Nat → Value := fun j => if j = i then v else f j
def updL (L : Nat → Bool) (i : Nat) : Nat → Bool := fun j => if j = i then true else L j
theorem laid_put {ops : Array Oper} {vals : Nat → Value} {L : Nat → Bool} {a : Act} {i : Nat} {v : Value} (hL : L i = false) (hd : ∀ j, j ≠ i → ∀ d, dstOf ops i = some d → dstOf ops j ≠ some d) : ∀ n, i < n → laid ops (updV vals i v) (updL L i) a n = (laid ops vals L a n).put (dstOf ops i) v
  | 0, h => by omega
  | n + 1, h => by
    by_cases hn : n = i
    · subst hn
      unfold laid
      have hc : laid ops (updV vals n v) (updL L n) a n = laid ops vals L a n := laid_congr n (fun j hj => by
        unfold updL updV
        rw [if_neg (by omega), if_neg (by omega)]
        exact ⟨rfl, fun _ => rfl⟩)
      rw [hc, if_pos (by simp [updL]), hL, if_neg (by simp)]
      simp [updV]
    · have ih := laid_put (vals := vals) (a := a) (v := v) hL hd n (by omega)
      unfold laid
      have e1 : updL L i n = L n := by unfold updL; rw [if_neg hn]
      have e2 : updV vals i v n = vals n := by unfold updV; rw [if_neg hn]
      rw [e1, e2, ih]
      cases L n with
      | true =>
        rw [if_pos rfl, if_pos rfl]
        exact Act.put_comm _ _ _ (fun d h1 h2 => hd n hn d h1 h2)
      | false => rw [if_neg (by simp), if_neg (by simp)]
theorem laid_size {ops : Array Oper} {vals : Nat → Value} {L : Nat → Bool} {a : Act} : ∀ n, (laid ops vals L a n).tmps.size = a.tmps.size
  | 0 => rfl
  | n + 1 => by
    have ih := laid_size (ops := ops) (vals := vals) (L := L) (a := a) n
    unfold laid
    split
    · unfold Act.put
      split
      · simpa using ih
      · exact ih
    · exact ih
theorem laid_out {ops : Array Oper} {vals : Nat → Value} {L : Nat → Bool} {a : Act} {t : Tmp} : ∀ n, (∀ j, j < n → L j = true → dstOf ops j ≠ some t) → (laid ops vals L a n).eval (.tmp t) = a.eval (.tmp t)
  | 0, _ => rfl
  | n + 1, h => by
    have ih := laid_out (vals := vals) (L := L) (a := a) n (fun j hj => h j (by omega))
    unfold laid
    split
    · rename_i hL
      rw [Act.eval_put (fun d hd e => by injection e with e; subst e; exact h n (by omega) hL hd)]; exact ih
    · exact ih
theorem eval_put_same {a : Act} {d : Tmp} {v : Value} (h : d < a.tmps.size) : (a.put (some d) v).eval (.tmp d) = v := by simp [Act.eval, Act.put, h]
theorem laidv_at {ops : Array Oper} {vals : Nat → Value} {L : Nat → Bool} {a : Act} {i : Nat} {d : Tmp} (hi : L i = true) (hd : dstOf ops i = some d) (hs : d < a.tmps.size) (hdd : ∀ j, j ≠ i → dstOf ops j ≠ some d) : ∀ n, i < n → (laid ops vals L a n).eval (.tmp d) = vals i
  | 0, h => by omega
  | n + 1, h => by
    unfold laid
    by_cases hn : n = i
    · subst hn
      rw [if_pos hi, hd]
      exact eval_put_same (by rw [laid_size]; exact hs)
    · have ih := laidv_at (vals := vals) hi hd hs hdd n (by omega)
      split
      · rw [Act.eval_put (fun e he h2 => by injection h2 with h2; subst h2; exact hdd n hn he)]; exact ih
      · exact ih
structure FineOps (ops : Array Oper) (n : Nat) : Prop where
  guard : ∀ (i : Nat) (o : Oper), ops[i]? = some o → o.guard = none
  apart : ∀ i j, i ≠ j → ∀ d, dstOf ops i = some d → dstOf ops j ≠ some d
  inside : ∀ i d, dstOf ops i = some d → d < n
  acyc : ∀ (i : Nat) (o : Oper), ops[i]? = some o → ∀ e ∈ o.after, e.on < i
theorem dst_lt {ops : Array Oper} {i : Nat} {d : Tmp} (h : dstOf ops i = some d) : i < ops.size := by
  unfold dstOf at h
  cases ho : ops[i]? with
  | none => rw [ho] at h; cases h
  | some o => exact (Array.getElem?_eq_some_iff.1 ho).1
section
variable {P : Program} {ops : Array Oper} {Q : Exit → Act → World → Prop}
/-- What is known where some operations have come up. -/
structure Done (ops : Array Oper) (G : Nat → Value → World → Prop) (a0 : Act) (w0 : World) (listed : Array Bool) (vals : Nat → Value) (w : World) : Prop where
  size : listed.size = ops.size
  below : Below w0.heap.size w0 w
  said : ∀ i, i < ops.size → listed.getD i true = true → G i (vals i) w
  closed : ∀ (j : Nat) (oj : Oper), ops[j]? = some oj → listed.getD j true = true → ∀ e ∈ oj.after, Region.binds .any e = true → listed.getD e.on true = true
/-- What an operation must do. -/
def OpSays (P : Program) (ops : Array Oper) (Q : Exit → Act → World → Prop) (G : Nat → Value → World → Prop) (a0 : Act) (w0 : World) (i : Nat) (o : Oper) : Prop :=
  ∀ (a : Act) (w : World) (vals : Nat → Value), (∀ t, (∀ (j : Nat) (oj : Oper), ops[j]? = some oj → oj.dst = some t → ∃ e ∈ oj.after, e.on = i ∧ Region.binds .any e = true) → a.eval (.tmp t) = a0.eval (.tmp t)) →
    (∀ e ∈ o.after, Region.binds .any e = true → ∀ d, dstOf ops e.on = some d → a.eval (.tmp d) = vals e.on ∧ G e.on (vals e.on) w) → Below w0.heap.size w0 w →
    o.wp P a w (fun a' w' => ∃ v, a' = a.put o.dst v ∧ G i v w' ∧ Below w.heap.size w w') Q
/-- How many have not come up. -/
def cntR (f : Nat → Bool) : Nat → Nat
  | 0 => 0
  | n + 1 => cntR f n + if f n then 0 else 1
theorem cntR_congr {f g : Nat → Bool} : ∀ n, (∀ i, i < n → f i = g i) → cntR f n = cntR g n
  | 0, _ => rfl
  | n + 1, h => by
    have ih := cntR_congr (f := f) (g := g) n (fun i hi => h i (by omega))
    unfold cntR
    rw [ih, h n (by omega)]
theorem cntR_upd {f : Nat → Bool} {i : Nat} (hf : f i = false) : ∀ n, i < n → cntR (updL f i) n + 1 = cntR f n
  | 0, h => by omega
  | n + 1, h => by
    unfold cntR
    by_cases hn : n = i
    · subst hn
      have hc : cntR (updL f n) n = cntR f n := cntR_congr n (fun j hj => by unfold updL; rw [if_neg (by omega)])
      have e : updL f n n = true := by simp [updL]
      rw [hc, e, hf]; simp
    · have ih := cntR_upd hf n (by omega)
      have e : updL f i n = f n := by unfold updL; rw [if_neg hn]
      rw [e]; omega
theorem cntR_zero {f : Nat → Bool} : ∀ n, cntR f n = 0 → ∀ i, i < n → f i = true
  | 0, _ => fun i hi => by omega
  | n + 1, h => fun i hi => by
    unfold cntR at h
    by_cases hn : i = n
    · subst hn
      cases hf : f i with
      | true => rfl
      | false => rw [hf] at h; simp at h
    · exact cntR_zero n (by omega) i (by omega)
theorem getD_flip {listed : Array Bool} {i : Nat} (h : i < listed.size) : listed.getD i true = listed.getD i false := by simp [h]
theorem getD_set_self {listed : Array Bool} {i : Nat} (h : i < listed.size) (d : Bool) : (listed.setIfInBounds i true).getD i d = true := by simp [h]
theorem laid_none {ops : Array Oper} {vals : Nat → Value} {L : Nat → Bool} {a : Act} : ∀ n, (∀ i, i < n → L i = false) → laid ops vals L a n = a
  | 0, _ => rfl
  | n + 1, h => by
    have ih := laid_none (ops := ops) (vals := vals) (L := L) (a := a) n (fun i hi => h i (by omega))
    unfold laid
    rw [h n (by omega), if_neg (by simp)]
    exact ih
/-- An operation that yields a value. -/
theorem oper_val {o : Oper} {a : Act} {w w' : World} {K : Act → World → Prop} (S : Sem Value) (hex : execOp a.eval o = (do pure (.value (← S)))) (v : Value) (hrun : S.run P w = .ok v w') (h : K (a.put o.dst v) w') : o.wp P a w K Q := by
  unfold Oper.wp
  simp only [hex, Sem.run_bind, Sem.run_pure, hrun, Result.andThen_ok]
  exact h
/-- An operation that copies. -/
theorem oper_same {o : Oper} {a : Act} {w : World} {K : Act → World → Prop} (v : Value) (hex : execOp a.eval o = pure (.value v)) (h : K (a.put o.dst v) w) : o.wp P a w K Q := by
  unfold Oper.wp
  simp only [hex, Sem.run_pure]
  exact h
end
end Go.Proofs.YtddnmocoaahlfaaGreatDoor
namespace Go.Proofs.YtddnmocoaahlfaaGreatDoor
open Go.RowKit Go.Shelf
/-- What is said of a value. -/
inductive Say where
  | val (v : Value)
  | row (l : List Int)
  | one (s : ByteArray)
  | str (t : List UInt8)
  | rows (ls : List (List UInt8))
def Say.holds : Say → Value → World → Prop
  | .val u, v, _ => v = u
  | .row l, v, w => ∃ D, v = .slice (some ⟨D, 0, none⟩) l.length l.length ∧ Blk w D (l.map (fun n => Value.int .i64 n)).toArray 3
  | .one s, v, w => ∃ D, v = .slice (some ⟨D, 0, none⟩) 1 1 ∧ Blk w D #[.string s] 9
  | .str t, v, _ => ∃ s : ByteArray, v = .string s ∧ txt s = t
  | .rows ls, v, w => ∃ (D : Nat) (ss : List ByteArray), v = .slice (some ⟨D, 0, none⟩) ss.length ss.length ∧ Blk w D (ss.map Value.string).toArray 9 ∧ ss.map txt = ls
theorem Say.stable (s : Say) {v : Value} {w w' : World} (h : s.holds v w) (b : Below w.heap.size w w') : s.holds v w' := by
  cases s with
  | val u => exact h
  | row l => obtain ⟨D, h1, h2⟩ := h; exact ⟨D, h1, h2.below b⟩
  | one s => obtain ⟨D, h1, h2⟩ := h; exact ⟨D, h1, h2.below b⟩
  | str t => exact h
  | rows ls => obtain ⟨D, ss, h1, h2, h3⟩ := h; exact ⟨D, ss, h1, h2.below b, h3⟩
/-- The text of an operation. -/
def OpIs (ops : Array Oper) (i : Nat) (op : Op) (d : Tmp) (deps : List Nat) : Prop := ∃ o, ops[i]? = some o ∧ o.op = op ∧ o.dst = some d ∧ ∀ j ∈ deps, ∃ e ∈ o.after, e.on = j ∧ Region.binds .any e = true
theorem OpIs.dst {ops : Array Oper} {i : Nat} {op : Op} {d : Tmp} {deps : List Nat} (h : OpIs ops i op d deps) : dstOf ops i = some d := by
  obtain ⟨o, ho, _, hd, _⟩ := h
  unfold dstOf; rw [ho]; exact hd
def depsOk (o : Oper) (deps : List Nat) : Bool := deps.all fun j => o.after.any fun e => e.on == j && Region.binds .any e
theorem depsOk_spec {o : Oper} {deps : List Nat} (h : depsOk o deps = true) : ∀ j ∈ deps, ∃ e ∈ o.after, e.on = j ∧ Region.binds .any e = true := by
  intro j hj
  have h1 := List.all_eq_true.1 h j hj
  obtain ⟨e, he, hb⟩ := Array.any_eq_true'.1 h1
  simp only [Bool.and_eq_true, beq_iff_eq] at hb
  exact ⟨e, he, hb.1, hb.2⟩
theorem region_open {P : Program} {id : Nat} {X : Array Oper} {Q : Exit → Act → World → Prop} {a : Act} {w : World} (h : ∀ ops, ops = X → ∀ a0, a0 = a → (Code.region id ops true).wp P Q a0 w) : (Code.region id X true).wp P Q a w := h X rfl a rfl
def noDst (ops : Array Oper) (x : Tmp) : Bool := ops.all fun o => o.dst != some x
theorem noDst_spec {ops : Array Oper} {x : Tmp} (h : noDst ops x = true) (j : Nat) : dstOf ops j ≠ some x := by
  unfold dstOf
  cases ho : ops[j]? with
  | none => simp
  | some o =>
    have := Array.all_eq_true_iff_forall_mem.1 h o (Array.mem_of_getElem? ho)
    simpa using this
section
variable {P : Program} {ops : Array Oper} {Q : Exit → Act → World → Prop} {says : Nat → Say} {a0 : Act} {w0 : World}
/-- What is known where an operation comes up. -/
structure Come (ops : Array Oper) (says : Nat → Say) (a0 : Act) (w0 : World) (i : Nat) (deps : List Nat) (a : Act) (w : World) : Prop where
  late : ∀ t, (∀ (j : Nat) (oj : Oper), ops[j]? = some oj → oj.dst = some t → ∃ e ∈ oj.after, e.on = i ∧ Region.binds .any e = true) → a.eval (.tmp t) = a0.eval (.tmp t)
  inn : ∀ j ∈ deps, ∀ d, dstOf ops j = some d → (says j).holds (a.eval (.tmp d)) w
  below : Below w0.heap.size w0 w
theorem Come.out {i : Nat} {deps : List Nat} {a : Act} {w : World} (hc : Come ops says a0 w0 i deps a w) (x : Tmp) (h : ∀ j, dstOf ops j ≠ some x) : a.eval (.tmp x) = a0.eval (.tmp x) :=
  hc.late x fun j oj hoj hd => absurd (show dstOf ops j = some x by unfold dstOf; rw [hoj]; exact hd) (h j)
theorem Come.val {i : Nat} {deps : List Nat} {a : Act} {w : World} (hc : Come ops says a0 w0 i deps a w) {j : Nat} {d : Tmp} {v : Value} (hj : j ∈ deps) (hd : dstOf ops j = some d) (hs : says j = .val v) : a.eval (.tmp d) = v := by
  have := hc.inn j hj d hd
  rw [hs] at this
  exact this
theorem Come.str {i : Nat} {deps : List Nat} {a : Act} {w : World} (hc : Come ops says a0 w0 i deps a w) {j : Nat} {d : Tmp} {t : List UInt8} (hj : j ∈ deps) (hd : dstOf ops j = some d) (hs : says j = .str t) : ∃ s : ByteArray, a.eval (.tmp d) = .string s ∧ txt s = t := by
  have := hc.inn j hj d hd
  rw [hs] at this
  exact this
theorem Come.row {i : Nat} {deps : List Nat} {a : Act} {w : World} (hc : Come ops says a0 w0 i deps a w) {j : Nat} {d : Tmp} {l : List Int} (hj : j ∈ deps) (hd : dstOf ops j = some d) (hs : says j = .row l) : ∃ D, a.eval (.tmp d) = .slice (some ⟨D, 0, none⟩) l.length l.length ∧ Blk w D (l.map (fun n => Value.int .i64 n)).toArray 3 := by
  have := hc.inn j hj d hd
  rw [hs] at this
  exact this
theorem Come.one {i : Nat} {deps : List Nat} {a : Act} {w : World} (hc : Come ops says a0 w0 i deps a w) {j : Nat} {d : Tmp} {s : ByteArray} (hj : j ∈ deps) (hd : dstOf ops j = some d) (hs : says j = .one s) : ∃ D, a.eval (.tmp d) = .slice (some ⟨D, 0, none⟩) 1 1 ∧ Blk w D #[.string s] 9 := by
  have := hc.inn j hj d hd
  rw [hs] at this
  exact this
end
theorem ent3r {f : FuncId} (he : Enters Tryz.prog f) (x y z : Operand) (ats : Array TypeId) (ρ : Operand → Value) (e : ρ (.func f) = .func (.func f) #[] #[]) (o : Oper) (w : World) (ho : o.op = .call { callee := .value (.func f), args := #[x, y, z], argTypes := ats }) : (execOp ρ o).run Tryz.prog w = .ok (.enter f #[ρ x, ρ y, ρ z]) w := by
  unfold execOp
  rw [ho]
  simp [resolve, invoke, e, Deferred.ofValue, go_sem, he #[ρ x, ρ y, ρ z] w]
theorem ent3 {f : FuncId} (he : Enters Tryz.prog f) (x y z : Operand) (ats : Array TypeId) (a0 : Act) (o : Oper) (w : World) (ho : o.op = .call { callee := .value (.func f), args := #[x, y, z], argTypes := ats }) : (execOp a0.eval o).run Tryz.prog w = .ok (.enter f #[a0.eval x, a0.eval y, a0.eval z]) w :=
  ent3r he x y z ats a0.eval (by simp [Act.eval]) o w ho
theorem eval_const (a : Act) (v : Value) : a.eval (.const v) = v := by simp [Act.eval]
theorem follows_mixed : Tryz.prog.follows .mixedOrders = true := by kernel_rfl
theorem ld9 (R k : Nat) (v : Value) (w : World) (h : w.cell? ⟨R, k, none⟩ = some v) : (Instr.loadAt 9 (.pointer (some ⟨R, k, none⟩))).run Tryz.prog w = .ok v w := by simp [go_sem, Instr.loadAt, Instr.sureAddr, h]
end Go.Proofs.YtddnmocoaahlfaaGreatDoor
namespace Go.Proofs.YtddnmocoaahlfaaGreatDoor
open Go.RowKit Go.Shelf
end Go.Proofs.YtddnmocoaahlfaaGreatDoor
namespace Go.Proofs.YtddnmocoaahlfaaGreatDoor
theorem read0 {p q : Pl} {ps : List (List UInt8)} (h : readLine 0 p ps = some q) : ∃ a, ps = [a] ∧ q = { p with alphabet := a } := by
  unfold readLine at h
  rw [if_pos rfl] at h
  split at h
  · obtain ⟨_, rfl⟩ := if_some h
    exact ⟨_, rfl, rfl⟩
  · cases h
theorem joinB_len0 (b : UInt8) (w : List UInt8) : ∀ ps : List (List UInt8), (joinB b w ps).length = w.length + (ps.map (fun p => p.length + 1)).sum
  | [] => by simp [joinB]
  | p :: ps => by
    have ih := joinB_len0 b w ps
    unfold joinB at ih ⊢
    simp only [List.flatMap_cons, List.length_append, List.length_cons, List.map_cons, List.sum_cons] at ih ⊢
    omega
theorem flat_mem (l : List (List UInt8)) (x : List UInt8) (y : List UInt8) (r : List (List UInt8)) (h : l = x :: y :: r) (z : List UInt8) (r2 : List (List UInt8)) (h2 : r = z :: r2) : x.length + z.length ≤ (l.flatMap (· ++ [10])).length := by
  subst h; subst h2
  simp only [List.flatMap_cons, List.length_append]
  omega
/-- A plant's text is longer than its strings. -/
theorem plantT_long {p : Pl} {t : List UInt8} (h : plantT p = (t, 0)) : p.alphabet.length + (p.banned.map (fun b => b.length + 1)).sum ≤ t.length := by
  unfold plantT at h
  split at h
  · injection h with h _
    subst h
    refine Nat.le_trans ?_ (flat_mem (plantLines p) _ _ _ rfl _ _ rfl)
    rw [joinB_len0, joinB_len0]
    simp only [List.map_cons, List.map_nil, List.sum_cons, List.sum_nil]
    omega
  · cases h
end Go.Proofs.YtddnmocoaahlfaaGreatDoor
namespace Go.Proofs.YtddnmocoaahlfaaGreatDoor
open Go.RowKit Go.Shelf
end Go.Proofs.YtddnmocoaahlfaaGreatDoor
namespace Go.Proofs.YtddnmocoaahlfaaGreatDoor
open Go.RowKit Go.Shelf
theorem zero35 (w : World) : (Instr.alloc 35 true (.tuple #[])).run Tryz.prog w = .ok (.pointer (some ⟨w.heap.size, 0, none⟩)) (w.alloc (.cells (PV.zero.cells (.slice none 0 0)) 35)) := by kernel_rfl
theorem RetTE.zero {w : World} {t : List UInt8} {r : List UInt8 × Int} {e : Ending} {w' : World} (h : RetTE w r e w') (hr : r = (t, 0)) : Below w.heap.size w w' ∧ ∃ s : ByteArray, e = .returned (.tuple #[.string s, .int .i64 0]) ∧ txt s = t := by
  subst hr
  exact h
end Go.Proofs.YtddnmocoaahlfaaGreatDoor
namespace Go.Proofs.YtddnmocoaahlfaaGreatDoor
open Go.RowKit Go.Shelf
theorem srw_cap {w : World} {p : Option Addr} {n c : Nat} {l : List ByteArray} (h : SRw w (.slice p n c) l) : l = [] ∨ l.length ≤ c := by
  rcases h with ⟨rfl, _⟩ | ⟨_, L, o, c', h1, h2, h3⟩
  · exact .inl rfl
  · injection h1 with _ _ h1
    subst h1
    exact .inr h2
set_option maxRecDepth 100000 in
set_option maxHeartbeats 8000000 in
theorem samePlant_eq {w : World} {q : PV} {bv1 bv2 : Value} {ss : List ByteArray} (h1 : SRw w bv1 ss) (h2 : SRw w bv2 ss) (hl' : ss.length ≤ maxLen) : Calls Tryz.prog 27 #[.agg (q.cells bv1), .agg (q.cells bv2)] w (fun ex w' => ex = .returned (.bool true) ∧ Below w.heap.size w w') := by
  have hl : ss.length ≤ 9223372036854775807 := by unfold maxLen at hl'; omega
  obtain ⟨p1, c1, rfl⟩ := h1.form
  obtain ⟨p2, c2, rfl⟩ := h2.form
  obtain ⟨al, ln, ck, rows, cols, ream, bundle, dn, reprint, star, opn, sheets, presses, life, plates, dry, vaults, blocks⟩ := q
  obtain ⟨w1, hw1⟩ : ∃ w1, w1 = w.alloc (.cells (PV.cells ⟨al, ln, ck, rows, cols, ream, bundle, dn, reprint, star, opn, sheets, presses, life, plates, dry, vaults, blocks⟩ (.slice p1 ss.length c1)) 35) := ⟨_, rfl⟩
  obtain ⟨w2, hw2⟩ : ∃ w2, w2 = w1.alloc (.cells (PV.cells ⟨al, ln, ck, rows, cols, ream, bundle, dn, reprint, star, opn, sheets, presses, life, plates, dry, vaults, blocks⟩ (.slice p2 ss.length c2)) 35) := ⟨_, rfl⟩
  have z1 : w1.heap.size = w.heap.size + 1 := by rw [hw1]; simp
  have l2 : Below w.heap.size w w2 := by rw [hw2, hw1]; exact ((Below.refl _ _).alloc (Nat.le_refl _) _).alloc (by simp) _
  have bA : Blk w2 w.heap.size (PV.cells ⟨al, ln, ck, rows, cols, ream, bundle, dn, reprint, star, opn, sheets, presses, life, plates, dry, vaults, blocks⟩ (.slice p1 ss.length c1)) 35 := by rw [hw2, hw1]; exact (Blk.new w _ _).alloc _
  have bB : Blk w2 (w.heap.size + 1) (PV.cells ⟨al, ln, ck, rows, cols, ream, bundle, dn, reprint, star, opn, sheets, presses, life, plates, dry, vaults, blocks⟩ (.slice p2 ss.length c2)) 35 := by rw [hw2, ← z1]; exact Blk.new w1 _ _
  have R1 := Lib.hid (h1.below l2)
  have R2 := Lib.hid (h2.below l2)
  have HW1 := Lib.hid hw1
  have HW2 := Lib.hid hw2
  have BA := Lib.hid bA
  have BB := Lib.hid bB
  have y2 : w2.cell? ⟨w.heap.size, 2, none⟩ = some (.slice p1 ss.length c1) := (bA.cell 2).trans rfl
  have x2 : w2.cell? ⟨w.heap.size + 1, 2, none⟩ = some (.slice p2 ss.length c2) := (bB.cell 2).trans rfl
  have dl : ((ss.length : Int) != (ss.length : Int)) = false := by simp
  clear bA bB h1 h2 hw1 hw2 z1
  go_enter Tryz.func27, Tryz.ntmps27
  go_upto_region 1 with fail
  rw [← HW1.out, ← HW2.out]
  go_wp2_with fail
  go_loopw [5] (fun t wr => ∃ i : Nat, t = .int .i64 i ∧ i ≤ ss.length ∧ Below w2.heap.size w2 wr) (fun t wr => ss.length - (intOf t).toNat)
  case atStart => exact ⟨0, rfl, Nat.zero_le _, Below.refl _ _⟩
  case round =>
    obtain ⟨i, rfl, hi, hbr⟩ := hrel
    replace y2 := cell_below y2 hbr
    replace x2 := cell_below x2 hbr
    by_cases hlt : i < ss.length
    · obtain ⟨L1, o1, e1, cc1⟩ := srw_get R1.out hlt
      obtain ⟨L2, o2, e2, cc2⟩ := srw_get R2.out hlt
      subst e1
      subst e2
      have k1 := cell_below cc1 hbr
      have k2 := cell_below cc2 hbr
      have hlen := srw_cap R1.out
      have hlen2 := srw_cap R2.out
      have hcap1 : ss.length ≤ c1 := hlen.resolve_left (fun e => by rw [e] at hlt; simp at hlt)
      have hcap2 : ss.length ≤ c2 := hlen2.resolve_left (fun e => by rw [e] at hlt; simp at hlt)
      generalize ss[i] = x at *
      have dx : (x.toList == x.toList) = true := by simp
      clear cc1 cc2 hlen hlen2
      go_wp2_with fail
      go_quiet (fail)
      go_wp2_with fail
      go_roundw
      case rel => exact ⟨i + 1, by go_num, by omega, hbr.trans ((drewN_below wr _).mono hbr.size)⟩
      case measure => simp [intOf]; omega
    · have hil : i = ss.length := by omega
      have bA := BA.out.below hbr
      have bB := BB.out.below hbr
      have a0 : wr.cell? ⟨w.heap.size, 0, none⟩ = some (.string al) := (bA.cell 0).trans rfl
      have a1 : wr.cell? ⟨w.heap.size, 1, none⟩ = some (.int .i64 ln) := (bA.cell 1).trans rfl
      have a3 : wr.cell? ⟨w.heap.size, 3, none⟩ = some (.bool ck) := (bA.cell 3).trans rfl
      have a4 : wr.cell? ⟨w.heap.size, 4, none⟩ = some (.int .i64 rows) := (bA.cell 4).trans rfl
      have a5 : wr.cell? ⟨w.heap.size, 5, none⟩ = some (.int .i64 cols) := (bA.cell 5).trans rfl
      have a6 : wr.cell? ⟨w.heap.size, 6, none⟩ = some (.int .i64 ream) := (bA.cell 6).trans rfl
      have a7 : wr.cell? ⟨w.heap.size, 7, none⟩ = some (.int .i64 bundle) := (bA.cell 7).trans rfl
      have a8 : wr.cell? ⟨w.heap.size, 8, none⟩ = some (.bool dn) := (bA.cell 8).trans rfl
      have a9 : wr.cell? ⟨w.heap.size, 9, none⟩ = some (.int .i64 reprint) := (bA.cell 9).trans rfl
      have a10 : wr.cell? ⟨w.heap.size, 10, none⟩ = some (.int .i64 star) := (bA.cell 10).trans rfl
      have a11 : wr.cell? ⟨w.heap.size, 11, none⟩ = some (.int .i64 opn) := (bA.cell 11).trans rfl
      have a12 : wr.cell? ⟨w.heap.size, 12, none⟩ = some (.int .i64 sheets) := (bA.cell 12).trans rfl
      have a13 : wr.cell? ⟨w.heap.size, 13, none⟩ = some (.int .i64 presses) := (bA.cell 13).trans rfl
      have a14 : wr.cell? ⟨w.heap.size, 14, none⟩ = some (.int .i64 life) := (bA.cell 14).trans rfl
      have a15 : wr.cell? ⟨w.heap.size, 15, none⟩ = some (.int .i64 plates) := (bA.cell 15).trans rfl
      have a16 : wr.cell? ⟨w.heap.size, 16, none⟩ = some (.int .i64 dry) := (bA.cell 16).trans rfl
      have a17 : wr.cell? ⟨w.heap.size, 17, none⟩ = some (.int .i64 vaults) := (bA.cell 17).trans rfl
      have a18 : wr.cell? ⟨w.heap.size, 18, none⟩ = some (.int .i64 blocks) := (bA.cell 18).trans rfl
      have b0 : wr.cell? ⟨w.heap.size + 1, 0, none⟩ = some (.string al) := (bB.cell 0).trans rfl
      have b1 : wr.cell? ⟨w.heap.size + 1, 1, none⟩ = some (.int .i64 ln) := (bB.cell 1).trans rfl
      have b3 : wr.cell? ⟨w.heap.size + 1, 3, none⟩ = some (.bool ck) := (bB.cell 3).trans rfl
      have b4 : wr.cell? ⟨w.heap.size + 1, 4, none⟩ = some (.int .i64 rows) := (bB.cell 4).trans rfl
      have b5 : wr.cell? ⟨w.heap.size + 1, 5, none⟩ = some (.int .i64 cols) := (bB.cell 5).trans rfl
      have b6 : wr.cell? ⟨w.heap.size + 1, 6, none⟩ = some (.int .i64 ream) := (bB.cell 6).trans rfl
      have b7 : wr.cell? ⟨w.heap.size + 1, 7, none⟩ = some (.int .i64 bundle) := (bB.cell 7).trans rfl
      have b8 : wr.cell? ⟨w.heap.size + 1, 8, none⟩ = some (.bool dn) := (bB.cell 8).trans rfl
      have b9 : wr.cell? ⟨w.heap.size + 1, 9, none⟩ = some (.int .i64 reprint) := (bB.cell 9).trans rfl
      have b10 : wr.cell? ⟨w.heap.size + 1, 10, none⟩ = some (.int .i64 star) := (bB.cell 10).trans rfl
      have b11 : wr.cell? ⟨w.heap.size + 1, 11, none⟩ = some (.int .i64 opn) := (bB.cell 11).trans rfl
      have b12 : wr.cell? ⟨w.heap.size + 1, 12, none⟩ = some (.int .i64 sheets) := (bB.cell 12).trans rfl
      have b13 : wr.cell? ⟨w.heap.size + 1, 13, none⟩ = some (.int .i64 presses) := (bB.cell 13).trans rfl
      have b14 : wr.cell? ⟨w.heap.size + 1, 14, none⟩ = some (.int .i64 life) := (bB.cell 14).trans rfl
      have b15 : wr.cell? ⟨w.heap.size + 1, 15, none⟩ = some (.int .i64 plates) := (bB.cell 15).trans rfl
      have b16 : wr.cell? ⟨w.heap.size + 1, 16, none⟩ = some (.int .i64 dry) := (bB.cell 16).trans rfl
      have b17 : wr.cell? ⟨w.heap.size + 1, 17, none⟩ = some (.int .i64 vaults) := (bB.cell 17).trans rfl
      have b18 : wr.cell? ⟨w.heap.size + 1, 18, none⟩ = some (.int .i64 blocks) := (bB.cell 18).trans rfl
      have lr := l2.trans (hbr.mono l2.size)
      have LR := Lib.hid lr
      have d0 : (al.toList == al.toList) = true := by simp
      have hz1 : w.heap.size + 1 < wr.heap.size := bB.lt
      have hz0 : w.heap.size < wr.heap.size := bA.lt
      clear bA bB R1 R2 BA BB HW1 HW2 hbr l2
      go_wp2_with fail
      go_region
      all_goals
        go_wp2_with fail
        go_ret
        exact ⟨rfl, ((LR.out.alloc LR.out.size _).alloc (by simp; omega) _).drew⟩
end Go.Proofs.YtddnmocoaahlfaaGreatDoor
namespace Go.Proofs.YtddnmocoaahlfaaGreatDoor
open Go.RowKit Go.Shelf
theorem txt_map_inj : ∀ {a b : List ByteArray}, a.map txt = b.map txt → a = b
  | [], [], _ => rfl
  | [], _ :: _, h => by cases h
  | _ :: _, [], h => by cases h
  | x :: a, y :: b, h => by
    simp only [List.map_cons, List.cons.injEq] at h
    rw [txt_inj' h.1, txt_map_inj h.2]
end Go.Proofs.YtddnmocoaahlfaaGreatDoor
