/-
  The reference's execution in memory: its state, its tables, what executing ends in.
  What the operations of a drawn region say of their values, by any facts that later worlds keep.
  What the reading of a line's values leaves, and laws of runS. No condition.
-/
import Derived.Test.YtddnmocoaahlfaaGreatDoorCmE
import Derived.Test.YtddnmocoaahlfaaGreatDoorRun
import Derived.Test.YtddnmocoaahlfaaGreatDoorY34
import Derived.Test.YtddnmocoaahlfaaGreatDoorMdt
import Derived.Test.YtddnmocoaahlfaaGreatDoorY26
set_option linter.unusedVariables false
set_option linter.unusedSimpArgs false
namespace Go.Proofs.YtddnmocoaahlfaaGreatDoor
open Go.RowKit Go.Shelf
def KeptA (w w' : World) : Prop := ∀ (k : Nat) (cur : Array Value) (T : TypeId) (z : Nat × Nat), T ≠ 24 → w.heap[k]? = some (.cells cur T z) → w'.heap[k]? = w.heap[k]?
theorem KeptA.refl (w : World) : KeptA w w := fun _ _ _ _ _ _ => rfl
theorem KeptA.trans {a b c : World} (h : KeptA a b) (k : KeptA b c) : KeptA a c := fun i cur T z h1 hi => (k i cur T z h1 ((h i cur T z h1 hi).trans hi)).trans (h i cur T z h1 hi)
theorem KeptA.below {w w' : World} (b : Below w.heap.size w w') : KeptA w w' := fun k cur T z h1 h => b.block k (Array.getElem?_eq_some_iff.1 h).1
theorem KeptA.blk {w w' : World} {R : Nat} {cs : Array Value} {T : TypeId} (h : KeptA w w') (hb : Blk w R cs T) (hT : T ≠ 24) : Blk w' R cs T := by
  unfold Blk at *
  rw [h R cs T _ hT hb]; exact hb
theorem KeptA.own {w w' : World} {b : Nat} {e : TypeId} {size : Nat} {v : Value} {n : Nat} {xs : List Value} (h : KeptA w w') (ho : w.ownsRow b e size v n xs) (he : e ≠ 24) : w'.ownsRow b e size v n xs := row_typed ho (fun k cur z hk => h k cur e z he hk)
structure RnSt (w : World) (b0 : Nat) (A N V : Value) (s : Ran) : Prop where
  acts : ActsAt w b0 A s.acts
  vars : VarsAt w b0 N V s.vars s.steps
  steps : s.steps ≤ 16384
  alen : s.acts.length ≤ 4096
  base : b0 ≤ w.heap.size
theorem ActsAt.slc {w : World} {b : Nat} {v : Value} {ac : List Act5} (h : ActsAt w b v ac) : Slc v := by
  obtain ⟨kvs, h1, _⟩ := h
  rcases h1.2 with ⟨rfl, _⟩ | ⟨g, cap, cur, rfl, _⟩
  · exact ⟨_, _, _, rfl⟩
  · exact ⟨_, _, _, rfl⟩
theorem VarsAt.slcs {w : World} {b : Nat} {N V : Value} {σ : List UInt8 → Option Int} {m : Nat} (h : VarsAt w b N V σ m) : Slc N ∧ Slc V := by
  obtain ⟨ns, vs, h1, h2, _⟩ := h
  obtain ⟨p, c, e⟩ := (srow_of h1).rw.form
  obtain ⟨q, d, e2⟩ := (nrow_of h2).form
  exact ⟨⟨_, _, _, e⟩, ⟨_, _, _, e2⟩⟩
theorem VarsAt.below {w w' : World} {b : Nat} {N V : Value} {σ : List UInt8 → Option Int} {m : Nat} (h : VarsAt w b N V σ m) (bl : Below w.heap.size w w') : VarsAt w' b N V σ m := by
  obtain ⟨ns, vs, h1, h2, h3⟩ := h
  exact ⟨ns, vs, own_below h1 bl, own_below h2 bl, h3⟩
theorem VarsAt.kept {w w' : World} {b : Nat} {N V : Value} {σ : List UInt8 → Option Int} {m : Nat} (h : VarsAt w b N V σ m) (k : KeptA w w') : VarsAt w' b N V σ m := by
  obtain ⟨ns, vs, h1, h2, h3⟩ := h
  exact ⟨ns, vs, k.own h1 (by decide), k.own h2 (by decide), h3⟩
theorem VarsAt.more {w : World} {b : Nat} {N V : Value} {σ : List UInt8 → Option Int} {m m' : Nat} (h : VarsAt w b N V σ m) (hm : m ≤ m') : VarsAt w b N V σ m' := by
  obtain ⟨ns, vs, h1, h2, h3, h4, h5, h6⟩ := h
  exact ⟨ns, vs, h1, h2, h3, h4, h5, by omega⟩
theorem VarsAt.stays {w w' : World} {b R : Nat} {N V : Value} {σ : List UInt8 → Option Int} {m : Nat} {cs : Array Value} {T : TypeId} (h : VarsAt w b N V σ m) (hb : Blk w R cs T) (h9 : T ≠ 9) (h3 : T ≠ 3) (s : Stays (fun k => k = R) w w') : VarsAt w' b N V σ m := by
  obtain ⟨ns, vs, h1, h2, h4⟩ := h
  exact ⟨ns, vs, own_stays h1 hb h9 s, own_stays h2 hb h3 s, h4⟩
theorem ActsAt.stays {w w' : World} {b R : Nat} {v : Value} {ac : List Act5} {cs : Array Value} {T : TypeId} (h : ActsAt w b v ac) (hb : Blk w R cs T) (h24 : T ≠ 24) (h3 : T ≠ 3) (s : Stays (fun k => k = R) w w') : ActsAt w' b v ac :=
  h.typed (.blk hb ⟨h24, h3⟩ s)
theorem RnSt.below {w w' : World} {b0 : Nat} {A N V : Value} {s : Ran} (h : RnSt w b0 A N V s) (bl : Below w.heap.size w w') : RnSt w' b0 A N V s :=
  ⟨h.acts.typed (.below bl), h.vars.below bl, h.steps, h.alen, Nat.le_trans h.base bl.size⟩
theorem RnSt.stays {w w' : World} {b0 R : Nat} {A N V : Value} {s : Ran} {cs : Array Value} {T : TypeId} (h : RnSt w b0 A N V s) (hb : Blk w R cs T) (hT : T ≠ 24 ∧ T ≠ 9 ∧ T ≠ 3) (st : Stays (fun k => k = R) w w') : RnSt w' b0 A N V s :=
  ⟨h.acts.stays hb hT.1 hT.2.2 st, h.vars.stays hb hT.2.1 hT.2.2 st, h.steps, h.alen, Nat.le_trans h.base st.size⟩
def RetRn (b0 : Nat) (w : World) (r : Res) (x : Ending) (w' : World) : Prop := Below b0 w w' ∧ KeptA w w' ∧ match r with
  | .ok s => ∃ A N V, x = .returned (rnV A N V s.steps 0 0) ∧ RnSt w' b0 A N V s
  | .error (e, line) => e ≠ 0 ∧ ∃ A N V, ∃ st : Int, Slc A ∧ Slc N ∧ Slc V ∧ x = .returned (rnV A N V st e line)
def RetOne (b0 : Nat) (w : World) (r : Res) (next : Nat) (x : Ending) (w' : World) : Prop := Below b0 w w' ∧ KeptA w w' ∧ match r with
  | .ok s => ∃ A N V, x = .returned (.tuple #[rnV A N V s.steps 0 0, .int .i64 next]) ∧ RnSt w' b0 A N V s
  | .error (e, line) => e ≠ 0 ∧ ∃ A N V, ∃ (st k : Int), Slc A ∧ Slc N ∧ Slc V ∧ x = .returned (.tuple #[rnV A N V st e line, .int .i64 k])
def LineAt (w : World) (v : Value) (ws : List (List UInt8)) : Prop := ∃ ss : List ByteArray, SRw w v ss ∧ ss.map txt = ws ∧ ss.length ≤ 65537 ∧ ∀ x ∈ ss, x.size ≤ 65536
theorem LineAt.below {w w' : World} {v : Value} {ws : List (List UInt8)} (h : LineAt w v ws) (b : Below w.heap.size w w') : LineAt w' v ws := by
  obtain ⟨ss, h1, h2⟩ := h
  exact ⟨ss, h1.below b, h2⟩
structure Pg (w : World) (W E L : Value) (T : Tabs) (n : Nat) : Prop where
  len : n ≤ 65537
  wrow : ∃ g c, W = .slice g n c ∧ ∀ i, i < n → n ≤ c ∧ ∃ G v, g = some ⟨G, 0, none⟩ ∧ w.cell? ⟨G, i, none⟩ = some v ∧ LineAt w v (T.W i)
  erow : ∃ g c, E = .slice g n c ∧ ∀ i, i < n → n ≤ c ∧ ∃ G, g = some ⟨G, 0, none⟩ ∧ w.cell? ⟨G, i, none⟩ = some (.int .i64 (T.En i))
  lrow : ∃ g c, L = .slice g n c ∧ ∀ i, i < n → n ≤ c ∧ ∃ G, g = some ⟨G, 0, none⟩ ∧ w.cell? ⟨G, i, none⟩ = some (.int .i64 (T.El i))
theorem Pg.below {w w' : World} {W E L : Value} {T : Tabs} {n : Nat} (h : Pg w W E L T n) (b : Below w.heap.size w w') : Pg w' W E L T n := by
  obtain ⟨h0, ⟨g, c, e1, h1⟩, ⟨g2, c2, e2, h2⟩, ⟨g3, c3, e3, h3⟩⟩ := h
  refine ⟨h0, ⟨g, c, e1, fun i hi => ?_⟩, ⟨g2, c2, e2, fun i hi => ?_⟩, ⟨g3, c3, e3, fun i hi => ?_⟩⟩
  · obtain ⟨q, G, v, a1, a2, a3⟩ := h1 i hi
    exact ⟨q, G, v, a1, cell_below a2 b, a3.below b⟩
  · obtain ⟨q, G, a1, a2⟩ := h2 i hi
    exact ⟨q, G, a1, cell_below a2 b⟩
  · obtain ⟨q, G, a1, a2⟩ := h3 i hi
    exact ⟨q, G, a1, cell_below a2 b⟩
abbrev pgV (W E L : Value) : Value := .agg #[W, E, L]
def SpanC (w0 : World) (W E L : Value) (lo hi : Nat) (ss : List Stm) : Prop := ∀ (w : World) (A N V : Value) (s : Ran), Below w0.heap.size w0 w → RnSt w w0.heap.size A N V s →
  Calls Tryz.prog 63 #[rnV A N V s.steps 0 0, pgV W E L, .int .i64 lo, .int .i64 hi] w (RetRn w0.heap.size w (runL ss s))
def OneC (w0 : World) (W E L : Value) (i next : Nat) (t : Stm) : Prop := ∀ (w : World) (A N V : Value) (s : Ran), Below w0.heap.size w0 w → RnSt w w0.heap.size A N V s →
  Calls Tryz.prog 109 #[rnV A N V s.steps 0 0, pgV W E L, .int .i64 i] w (RetOne w0.heap.size w (runS t s) next)
theorem size126 : (Tryz.prog.info? 126).map (·.size) = some 3 := by kernel_rfl
theorem res109 {tmps : Array Value} {w : World} {D : Nat} {cs : Array Value} {v : Value} (h : Blk w D cs 130) (hs : cs.size = 6) (h2 : tmps.getD 6 undef = .pointer (some ⟨D, 0, none⟩)) (h3 : tmps.getD 7 undef = v) :
    (results Tryz.f109 tmps).run Tryz.prog w = .ok (.tuple #[.agg cs, v]) w := by
  have hl := run_loadVar_row w D 130 130 cs (0, 0) _ h Tryz.underlying130 rfl (by rw [size130, hs])
  simp only [results, Tryz.results109, List.mapM_toArray, List.mapM_cons, List.mapM_nil, h2, h3, asAddr, pure_bind, map_eq_pure_bind, bind_assoc, Sem.run_bind, Sem.run_pure, hl, Result.andThen_ok]
  rfl
theorem res63 {tmps : Array Value} {w : World} {D : Nat} {cs : Array Value} (h : Blk w D cs 130) (hs : cs.size = 6) (h2 : tmps.getD 8 undef = .pointer (some ⟨D, 0, none⟩)) :
    (results Tryz.f63 tmps).run Tryz.prog w = .ok (.agg cs) w := by
  have hl := run_loadVar_row w D 130 130 cs (0, 0) _ h Tryz.underlying130 rfl (by rw [size130, hs])
  simp only [results, Tryz.results63, List.mapM_toArray, List.mapM_cons, List.mapM_nil, h2, asAddr, pure_bind, map_eq_pure_bind, bind_assoc, Sem.run_bind, Sem.run_pure, hl, Result.andThen_ok]
  rfl
theorem one_pre (w : World) (cs ps : Array Value) : ∃ w2, w2 = ((w.alloc (.cells cs 130)).alloc (.cells ps 126)).alloc (.cells #[.slice none 0 0, .slice none 0 0, .slice none 0 0, .int .i64 0, .int .i64 0, .int .i64 0] 130) ∧ Below w.heap.size w w2 ∧ Blk w2 w.heap.size cs 130 ∧ Blk w2 (w.heap.size + 1) ps 126 ∧ Blk w2 (w.heap.size + 1 + 1) #[.slice none 0 0, .slice none 0 0, .slice none 0 0, .int .i64 0, .int .i64 0, .int .i64 0] 130 ∧ w2.heap.size = w.heap.size + 3 := by
  have l1 : Below w.heap.size w (w.alloc (.cells cs 130)) := (Below.refl _ _).alloc (Nat.le_refl _) _
  refine ⟨_, rfl, (l1.alloc l1.size _).alloc (by simp; omega) _, ((Blk.new w cs 130).alloc _).alloc _, (Blk.newAt (by simp) _ _).alloc _, Blk.newAt (by simp) _ _, by simp⟩
theorem one_fin {b0 : Nat} {w w8 : World} {R : Nat} {c0 : Array Value} {A N V : Value} {s : Ran} {next : Nat} (hb : b0 ≤ R) (l8 : Below b0 w w8) (k8 : KeptA w w8) (BR : Blk w8 R c0 130) (hR : w.heap.size ≤ R) (hs : RnSt w8 b0 A N V s) :
    RetOne b0 w (.ok s) next (.returned (.tuple #[rnV A N V s.steps 0 0, .int .i64 next])) (w8.setRow R (rnC A N V s.steps 0 0)) := by
  have st := setRow_stays w8 R (rnC A N V s.steps 0 0)
  have hw := l8.size
  refine ⟨l8.trans (st.below (by have := BR.lt; omega) (fun j hj e => by have e' : j = R := e; omega)), fun k cur T z hT hk => ?_, A, N, V, rfl, hs.stays BR (by decide) st⟩
  rw [st.block k (by have := (Array.getElem?_eq_some_iff.1 hk).1; have := BR.lt; omega) (fun e => by have e' : k = R := e; have := (Array.getElem?_eq_some_iff.1 hk).1; omega)]
  exact k8 k cur T z hT hk
theorem one_end {b0 : Nat} {w w8 : World} {R : Nat} {c0 : Array Value} {A N V : Value} {st0 e k : Int} {line next : Nat} (hb : b0 ≤ R) (l8 : Below b0 w w8) (k8 : KeptA w w8) (BR : Blk w8 R c0 130) (hR : w.heap.size ≤ R) (he : e ≠ 0) (hA : Slc A) (hN : Slc N) (hV : Slc V) :
    RetOne b0 w (.error (e, line)) next (.returned (.tuple #[rnV A N V st0 e line, .int .i64 k])) (w8.setRow R (rnC A N V st0 e line)) := by
  have st := setRow_stays w8 R (rnC A N V st0 e line)
  refine ⟨l8.trans (st.below (by have := BR.lt; omega) (fun j hj e => by have e' : j = R := e; omega)), fun k cur T z hT hk => ?_, he, A, N, V, st0, k, hA, hN, hV, rfl⟩
  rw [st.block k (by have := (Array.getElem?_eq_some_iff.1 hk).1; have := BR.lt; omega) (fun e => by have e' : k = R := e; have := (Array.getElem?_eq_some_iff.1 hk).1; omega)]
  exact k8 k cur T z hT hk
end Go.Proofs.YtddnmocoaahlfaaGreatDoor
namespace Go.Proofs.YtddnmocoaahlfaaGreatDoor
open Go.RowKit Go.Shelf
structure Kp where
  p : Value → World → Prop
  st : ∀ v w w', p v w → Below w.heap.size w w' → p v w'
def Kp.is (u : Value) : Kp := ⟨fun v _ => v = u, fun _ _ _ h _ => h⟩
def Kp.any : Kp := ⟨fun _ _ => True, fun _ _ _ h _ => h⟩
def GK (ks : List Kp) : Nat → Value → World → Prop := fun i => (ks.getD i Kp.any).p
theorem GK.stable (ks : List Kp) (i : Nat) (v : Value) (w w' : World) (h : GK ks i v w) (b : Below w.heap.size w w') : GK ks i v w' := (ks.getD i Kp.any).st v w w' h b
section
variable {P : Program} {ops : Array Oper} {Q : Exit → Act → World → Prop} {G : Nat → Value → World → Prop} {a0 : Act} {w0 : World}
structure ComeG (ops : Array Oper) (G : Nat → Value → World → Prop) (a0 : Act) (w0 : World) (i : Nat) (deps : List Nat) (a : Act) (w : World) : Prop where
  late : ∀ t, (∀ (j : Nat) (oj : Oper), ops[j]? = some oj → oj.dst = some t → ∃ e ∈ oj.after, e.on = i ∧ Region.binds .any e = true) → a.eval (.tmp t) = a0.eval (.tmp t)
  inn : ∀ j ∈ deps, ∀ d, dstOf ops j = some d → G j (a.eval (.tmp d)) w
  below : Below w0.heap.size w0 w
theorem ComeG.out {i : Nat} {deps : List Nat} {a : Act} {w : World} (hc : ComeG ops G a0 w0 i deps a w) (x : Tmp) (h : noDst ops x = true) : a.eval (.tmp x) = a0.eval (.tmp x) :=
  hc.late x fun j oj hoj hd => absurd (show dstOf ops j = some x by unfold dstOf; rw [hoj]; exact hd) (noDst_spec h j)
theorem ComeG.get {i : Nat} {deps : List Nat} {a : Act} {w : World} (hc : ComeG ops G a0 w0 i deps a w) {j : Nat} {d : Tmp} {op : Op} {dd : List Nat} (hj : j ∈ deps) (h : OpIs ops j op d dd) : G j (a.eval (.tmp d)) w := hc.inn j hj d h.dst
def OkG (P : Program) (ops : Array Oper) (Q : Exit → Act → World → Prop) (G : Nat → Value → World → Prop) (a0 : Act) (w0 : World) (i : Nat) : Prop := ∀ o, ops[i]? = some o → OpSays P ops Q G a0 w0 i o
theorem okG_of {i : Nat} {op : Op} {d : Tmp} {deps : List Nat} (h : OpIs ops i op d deps) (H : ∀ (o : Oper), o.op = op → o.dst = some d → ∀ (a : Act) (w : World), ComeG ops G a0 w0 i deps a w → o.wp P a w (fun a' w' => ∃ v, a' = a.put o.dst v ∧ G i v w' ∧ Below w.heap.size w w') Q) : OkG P ops Q G a0 w0 i := by
  intro o ho
  obtain ⟨o', ho', h1, h2, h3⟩ := h
  obtain rfl := Option.some.inj (ho.symm.trans ho')
  intro a w vals hout hin hb
  refine H o h1 h2 a w ⟨hout, fun j hj d hd => ?_, hb⟩
  obtain ⟨e, he, rfl, hbd⟩ := h3 j hj
  obtain ⟨g1, g2⟩ := hin e he hbd d hd
  rw [g1]; exact g2
theorem okG_val {i : Nat} {op : Op} {d : Tmp} {deps : List Nat} (h : OpIs ops i op d deps) (S : (Operand → Value) → Sem Value) (hex : ∀ (ρ : Operand → Value) (o : Oper), o.op = op → execOp ρ o = (do pure (.value (← S ρ))))
    (hrun : ∀ a w, ComeG ops G a0 w0 i deps a w → ∃ v w', (S a.eval).run P w = .ok v w' ∧ G i v w' ∧ Below w.heap.size w w') : OkG P ops Q G a0 w0 i :=
  okG_of h fun o h1 h2 a w hc => by
    obtain ⟨v, w', hr, hs, hb⟩ := hrun a w hc
    exact oper_val (S a.eval) (hex a.eval o h1) v hr ⟨v, rfl, hs, hb⟩
theorem okG_move {i : Nat} {x : Operand} {op : Op} {d : Tmp} {deps : List Nat} (h : OpIs ops i op d deps) (hop : op = .move x ∨ op = .assign x) (hs : ∀ a w, ComeG ops G a0 w0 i deps a w → G i (a.eval x) w) : OkG P ops Q G a0 w0 i :=
  okG_of h fun o h1 h2 a w hc => by
    refine oper_same (a.eval x) ?_ ⟨_, rfl, hs a w hc, Below.refl _ _⟩
    unfold execOp; rw [h1]; rcases hop with rfl | rfl <;> rfl
theorem okG_call {i : Nat} {d : Nat} {f : FuncId} {args : Array Operand} {ats : Array TypeId} {deps : List Nat} (h : OpIs ops i (.call { callee := .value (.func f), args := args, argTypes := ats }) d deps)
    (H : ∀ (o : Oper) (a : Act) (w : World), o.op = .call { callee := .value (.func f), args := args, argTypes := ats } → ComeG ops G a0 w0 i deps a w → ∃ vs, (execOp a.eval o).run P w = .ok (.enter f vs) w ∧ Calls P f vs w (fun e w' => Below w.heap.size w w' ∧ ∃ u, e = .returned u ∧ G i u w')) : OkG P ops Q G a0 w0 i :=
  okG_of h fun o h1 h2 a w hc => by
    obtain ⟨vs, hr, hcall⟩ := H o a w h1 hc
    unfold Oper.wp
    rw [hr]
    simp only [Oper.upon]
    refine Calls.mono hcall ?_
    rintro e w' ⟨hb, u, rfl, hs⟩
    exact ⟨u, rfl, hs, hb⟩
end
theorem sub_run (m n : Int) (x y : Operand) (w : World) (h : I64 (m - n)) : (do eqGuard .sub 3 x y (.int .i64 m) (.int .i64 n); binOp .sub 3 (.int .i64 m) (.int .i64 n) : Sem Value).run Tryz.prog w = .ok (.int .i64 (m - n)) w := by
  have h' : IntKind.i64.wrap (m - n) = m - n := IntWalk.i64_in _ h
  simp [eqGuard, binOp, go_sem, h']
theorem tup0 (a b : Value) (w : World) : (Instr.extract (.tuple #[a, b]) 0).run Tryz.prog w = .ok a w := by simp [Instr.extract, go_sem]
theorem tup1 (a b : Value) (w : World) : (Instr.extract (.tuple #[a, b]) 1).run Tryz.prog w = .ok b w := by simp [Instr.extract, go_sem]
theorem idx27 {L o n c k : Nat} (h : k < n) (w : World) : (Instr.indexAt 27 (.slice (some ⟨L, o, none⟩) n c) (.int .i64 (k : Int))).run Tryz.prog w = .ok (.pointer (some ⟨L, o + k, none⟩)) w := by
  have u27 := Tryz.underlying27
  have z9 := Tryz.sizeOf9
  have d1 : ¬ ((k : Int) < 0) := by omega
  have d2 : (k : Int) < (n : Int) := by omega
  simp [Instr.indexAt, go_sem, u27, z9, d1, d2, Addr.add, h]
end Go.Proofs.YtddnmocoaahlfaaGreatDoor
namespace Go.Proofs.YtddnmocoaahlfaaGreatDoor
open Go.RowKit Go.Shelf
def EvCs (A N V : Value) (st k : Int) : Except Int (List Int) → Array Value
  | .ok _ => rnC A N V st 0 0
  | .error e => rnC A N V st e k
def EvVal (r : Except Int (List Int)) (b : Nat) (v : Value) (w : World) : Prop := match r with
  | .ok l => IRow w b v l
  | .error _ => v = .slice none 0 0
theorem EvVal.below {r : Except Int (List Int)} {b : Nat} {v : Value} {w w' : World} (h : EvVal r b v w) (bl : Below w.heap.size w w') : EvVal r b v w' := by
  unfold EvVal at *
  cases r with
  | ok l => exact own_below h bl
  | error e => exact h
theorem EvVal.store {r : Except Int (List Int)} {b R : Nat} {v : Value} {w : World} {c0 : Array Value} (h : EvVal r b v w) (hb : Blk w R c0 130) (cs : Array Value) : EvVal r b v (w.setRow R cs) := by
  unfold EvVal at *
  cases r with
  | ok l => exact own_stays h hb (by decide) (setRow_stays w R cs)
  | error e => exact h
def KEv (r : Except Int (List Int)) (b : Nat) (cs : Array Value) : Kp := ⟨fun v w => ∃ u, v = .tuple #[.agg cs, u] ∧ EvVal r b u w, fun v w w' ⟨u, h1, h2⟩ bl => ⟨u, h1, h2.below bl⟩⟩
def KVl (r : Except Int (List Int)) (b : Nat) : Kp := ⟨fun v w => EvVal r b v w, fun v w w' h bl => h.below bl⟩
def KRb (w4 : World) : Kp := ⟨fun v w => ∃ R8, v = .pointer (some ⟨R8, 0, none⟩) ∧ Blk w R8 (rnC (.slice none 0 0) (.slice none 0 0) (.slice none 0 0) 0 0 0) 130 ∧ w4.heap.size ≤ R8, fun v w w' ⟨R8, h1, h2, h3⟩ b => ⟨R8, h1, h2.below b, h3⟩⟩
theorem zero130 (w : World) : (Instr.alloc 130 true (.tuple #[])).run Tryz.prog w = .ok (.pointer (some ⟨w.heap.size, 0, none⟩)) (w.alloc (.cells (rnC (.slice none 0 0) (.slice none 0 0) (.slice none 0 0) 0 0 0) 130)) := by kernel_rfl
theorem ev_keep {w w' : World} {A N V : Value} {st k : Int} {r : Except Int (List Int)} {cs : Array Value} {x : Ending} {b : Nat} (hb : b ≤ w.heap.size) (hcs : cs = EvCs A N V st k r) (h : RetRE w A N V st 0 0 k r x w') : Below w.heap.size w w' ∧ ∃ u, x = .returned u ∧ (KEv r b cs).p u w' := by
  obtain ⟨b1, h1⟩ := h
  refine ⟨b1, ?_⟩
  subst hcs
  cases r with
  | ok l =>
    obtain ⟨v, rfl, h2⟩ := h1
    exact ⟨_, rfl, v, rfl, row_base h2 hb⟩
  | error e =>
    have h1 : x = _ := h1
    exact ⟨_, h1, _, rfl, rfl⟩
theorem runS_stop {line : Nat} {k nm : List UInt8} {xs : List Ex} {bd ot : List Stm} {s : Ran} (h : s.steps = 16384) : runS (.mk line k nm xs bd ot) s = .error (5, line) := by
  unfold runS stepL
  rw [if_pos (by omega)]
theorem runS_everr {line : Nat} {k nm : List UInt8} {xs : List Ex} {bd ot : List Stm} {s : Ran} {e : Int} (h : s.steps + 1 ≤ 16384) (he : evalAll s.vars xs = .error e) : runS (.mk line k nm xs bd ot) s = .error (e, line) := by
  unfold runS
  rw [step_in h]
  simp only [he]
theorem runS_let {line : Nat} {nm : List UInt8} {xs : List Ex} {bd ot : List Stm} {s : Ran} {l : List Int} (h : s.steps + 1 ≤ 16384) (he : evalAll s.vars xs = .ok l) : runS (.mk line sLet nm xs bd ot) s = .ok ⟨upd s.vars nm (l.getD 0 0), s.steps + 1, s.acts⟩ := by
  unfold runS
  rw [step_in h]
  simp only [he]
  rw [if_pos trivial]
theorem evAll_err {σ : List UInt8 → Option Int} : ∀ {xs : List Ex} {e : Int}, evalAll σ xs = .error e → e = 100 ∨ e = 101
  | [], e, h => by simp only [evalAll] at h; cases h
  | x :: xs, e, h => by
    simp only [evalAll] at h
    cases hx : x.eval σ with
    | error e' => rw [hx] at h; injection h with h; subst h; exact eval_err hx
    | ok v =>
      rw [hx] at h
      cases hxs : evalAll σ xs with
      | error e' => rw [hxs] at h; injection h with h; subst h; exact evAll_err hxs
      | ok vs => rw [hxs] at h; cases h
theorem evAll_len {σ : List UInt8 → Option Int} : ∀ {xs : List Ex} {l : List Int}, evalAll σ xs = .ok l → l.length = xs.length
  | [], l, h => by simp only [evalAll] at h; cases h; rfl
  | x :: xs, l, h => by
    simp only [evalAll] at h
    cases hx : x.eval σ with
    | error e' => rw [hx] at h; cases h
    | ok v =>
      rw [hx] at h
      cases hxs : evalAll σ xs with
      | error e' => rw [hxs] at h; cases h
      | ok vs =>
        rw [hxs] at h
        cases h
        simp [evAll_len hxs]
theorem parts_act {k nm : List UInt8} {t : List (List UInt8)} {xs : List Ex} (k1 : k ≠ sLet) (k2 : k ≠ sFor) (k3 : k ≠ sIf) (h : partsL k t = some (nm, xs)) : exprsL t = some xs ∧ actOfL k ≠ 0 ∧ takes (actOfL k) t.length = true := by
  have hf : fmdL k t = true := by
    by_cases he : k = sElse ∨ k = sEnd
    · exfalso
      unfold partsL at h
      rw [if_neg k1, if_neg k2, if_neg k3] at h
      have : actOfL k = 0 := by rcases he with rfl | rfl <;> decide
      simp only at h
      rw [if_pos this] at h
      cases h
    · unfold fmdL
      rw [if_neg he, h]
      rfl
  have he : ¬ (k = sElse ∨ k = sEnd) := by
    rintro he
    unfold partsL at h
    rw [if_neg k1, if_neg k2, if_neg k3] at h
    have : actOfL k = 0 := by rcases he with rfl | rfl <;> decide
    simp only at h
    rw [if_pos this] at h
    cases h
  rw [fmd_act _ he k1 k2 k3] at hf
  simp only [Bool.and_eq_true, decide_eq_true_eq] at hf
  refine ⟨?_, hf.1, hf.2.1⟩
  unfold partsL at h
  rw [if_neg k1, if_neg k2, if_neg k3] at h
  simp only at h
  rw [if_neg hf.1] at h
  have : ∀ a b, simpleL t a b = some (nm, xs) → exprsL t = some xs := fun a b h => by
    unfold simpleL at h
    split at h
    · cases h
    · obtain ⟨y, hy, h2⟩ := Option.map_eq_some_iff.1 h
      injection h2 with _ h2
      rw [hy, h2]
  split at h
  · exact this _ _ h
  · exact this _ _ h
theorem srw_lo {w : World} {v : Value} {ss : List ByteArray} (h : SRw w v ss) {L o m c : Nat} (e : v = .slice (some ⟨L, o, none⟩) m c) (h0 : ss ≠ []) : L < w.heap.size := by
  rcases h with ⟨h, _⟩ | ⟨_, L', o', c', h1, _, h3⟩
  · exact absurd h h0
  · rw [e] at h1
    injection h1 with h1 _ _
    injection h1 with h1
    injection h1 with h1 _
    subst h1
    exact World.block_lt_of_cell? w _ (h3 0 (List.length_pos_iff.2 h0))
theorem acts_push2 {wq w4 : World} {b0 : Nat} {vac nv kv : Value} {ac : List Act5} {kvs : List Value} {a : Act5} (hb : b0 ≤ wq.heap.size) (hrow : wq.ownsRow b0 24 7 vac ac.length (actsCells ac kvs)) (hk : KeepAll wq b0 ac kvs) (hkv : IRow wq b0 kv a.keep) (h5 : a.f.length = 5)
    {cs : Array Value} (hgr : (wq.alloc (.cells cs 24)).grownBy w4 vac.ownBlock) (hown4 : w4.ownsRow b0 24 7 nv (ac.length + 1) (actsCells ac kvs ++ actCells a kv)) : Below b0 wq w4 ∧ KeptA wq w4 ∧ ActsAt w4 b0 nv (ac ++ [a]) := by
  have keep : ∀ k, k < wq.heap.size → vac.ownBlock ≠ some k → w4.heap[k]? = wq.heap[k]? := fun k hk hne => (hgr.block k (by simp; omega) (fun e => hne e.symm)).trans (heap_alloc_old wq _ hk)
  have kept : KeptA wq w4 := fun k cur T z hT h => keep k (Array.getElem?_eq_some_iff.1 h).1 (fun e => by
    obtain ⟨cur', h'⟩ := row_type hrow e
    rw [h] at h'
    injection h' with h'
    injection h' with _ h'
    exact hT h')
  have hsz : wq.heap.size ≤ w4.heap.size := by have := hgr.size; simp at this; omega
  refine ⟨⟨hgr.os, hgr.tape, hgr.output, hsz, fun k hk => keep k (by omega) (fun e => by have := (hrow.lt k e).1; omega)⟩, kept, kvs ++ [kv], by rw [actsCells_snoc a kv ac kvs hk.len, List.length_append]; exact hown4, (hk.typed (fun k cur z h => kept k cur 3 z (by decide) h)).snoc ⟨kept.own hkv (by decide), h5⟩⟩
theorem keep_row {w : World} {b k : Nat} {v : Value} {l kp f : List Int} {p : Option Addr} {m c : Nat} (hrow : IRow w b v l) (hkn : NRow w (.slice p m c) kp) (hkk : .slice p m c = Value.slice none 0 0 ∨ .slice p m c = v) (hmk : makeActL k l = ⟨k, f, kp⟩) : IRow w b (.slice p m c) kp := by
  obtain ⟨p', c', e⟩ := hkn.form
  injection e with _ e _
  rcases hkk with h | h
  · injection h with h1 h2 h3
    subst h1; subst h2; subst h3
    have : kp = [] := List.length_eq_zero_iff.1 e.symm
    subst this
    exact World.ownsRow_nil _ _ _ _
  · obtain ⟨p2, c2, e2⟩ := (nrow_of hrow).form
    rw [← h] at e2 hrow
    injection e2 with _ e2 _
    have hkl : kp = l := by
      unfold makeActL at hmk
      split at hmk
      · injection hmk with _ _ h3; exact h3.symm
      · injection hmk with _ _ h3
        subst h3
        have : l = [] := List.length_eq_zero_iff.1 (by rw [← e2, e]; rfl)
        exact this.symm
    rw [hkl]; exact hrow
theorem acts_form {w : World} {b : Nat} {v : Value} {ac : List Act5} (h : ActsAt w b v ac) : ∃ p c, v = .slice p ac.length c ∧ True := by
  obtain ⟨kvs, h1, _⟩ := h
  rcases h1.2 with ⟨rfl, h0⟩ | ⟨g, cap, cur, rfl, _⟩
  · exact ⟨none, 0, by rw [h0], trivial⟩
  · exact ⟨_, _, rfl, trivial⟩
end Go.Proofs.YtddnmocoaahlfaaGreatDoor
