/-
  What the rows' lists of package-level variables say of their cells; and the wrap of a contract whose row lists variables and whose road reads internal/bytealg.MaxLen.
  What the rows' lists give the walks: the tables as the program lays them. No condition.
-/
import Derived.Test.YtddnmocoaahlfaaGreatDoorRows
import Derived.Test.YtddnmocoaahlfaaGreatDoorShelf
import Derived.Test.YtddnmocoaahlfaaGreatDoorY36
import Derived.Lay
import Derived.ProofKit
import Derived.OpenShut
import Derived.ShutString
import Derived.ChangeOld
import Derived.LaidMore
import Derived.LaidLaws
import Derived.Lib.LaidTab
import Derived.Deep.Strs
import Derived.HandedShaped
import Derived.SevenTiedAt
import Derived.Stop.Joined
set_option linter.unusedVariables false
set_option linter.unusedSimpArgs false
namespace Go.Proofs.YtddnmocoaahlfaaGreatDoor
open Go.ChangeShapes Go.WideShapes Go.ChangeAt Go.RowKit
theorem change_and_shaped {H : Type} {enc : TypeId × Value → H} {a : Assume} {C : Checked} {os : Os} {f : FuncId} {fn : Func} {s : ChangeSpec} {conds : List PathCond} {apart fresh handsOn again : Bool} {X : World → Array Value → Prop}
    (hX : ∀ (w w' : World) (args : Array Value), w.heap = w'.heap → X w args → X w' args)
    (own : ownKnob C.prog.godebug = none) (started : os.Started) (noInit : C.prog.inits.idxOf? f = none) (hfn : C.prog.funcs[f]? = some fn)
    (witness : ∃ (w : World) (tape : Tape) (i : Input), w.os = os ∧ (w.forCall tape i).Shaped C.prog ∧ i.vars = [] ∧ Input.okWide C.prog (w.forCall tape i) .any w.heap.size f i ∧
      ((s.pre enc C.prog fn conds apart (w.forCall tape i).memory i.args ∧ X (w.forCall tape i).memory i.args) ∧ sizedMet enc C.prog fn (OpenSpec.ofChange s) apart (w.forCall tape i).memory i.args) ∧ a.holds C.prog (lone (Frame.enter C.prog f i.args .normal) [] (w.forCall tape i)))
    (contract : ∀ (W : World) (base : Nat) (args : Array Value) (ds gs : List (DataW H)) (before : List MemPlace),
      (∀ (j : Nat) t v, fn.params[j]? = some t → args[j]? = some v → Value.okWide C.prog W .any base t v) →
      DataW.Whole enc C.prog fn.params.toList s.vars apart W args.toList ds gs before →
      conds.all (PathCond.test C.prog ⟨fn.params.toList, ds, s.plain.varTypes C.prog, gs⟩) = true →
      X W args → W.ShapedOpen C.prog →
      Calls C.prog f args W fun e W' => ∃ v, e = .returned v ∧ s.post enc C.prog fn apart fresh handsOn again W args v W') :
    ReturnsInHanded a C os f .any (fun w args => (s.pre enc C.prog fn conds apart w args ∧ X w args) ∧ sizedMet enc C.prog fn (OpenSpec.ofChange s) apart w args) (s.post enc C.prog fn apart fresh handsOn again) := by
  refine returnsInHanded_of_calls own started noInit witness ?_
  intro w tape i _ hsh _ hok hpre hholds
  obtain ⟨_, _, _, fn', hfn', _, _, _, _, hval⟩ := hok
  have e : fn' = fn := Option.some.inj (hfn'.symm.trans hfn)
  subst e
  obtain ⟨⟨⟨ds, gs, before, hw, hc⟩, hx⟩, hz⟩ := hpre
  have hw' := DataW.Whole.of_heap (w' := w.forCall tape i) (by rfl) hw
  refine (contract (w.forCall tape i) w.heap.size i.args ds gs before hval hw' hc (hX _ _ _ (by rfl) hx) hsh).mono fun e W' ⟨v, he, hp⟩ => ?_
  subst he
  exact ChangeSpec.post_blind hp
theorem laid_mem {P : Program} {w : World} {n : String} {d : DataW Unit} : ∀ {L : List (String × DataW Unit)} {ps : List MemPlace}, DataW.LaidVars P w L ps → (n, d) ∈ L →
    ∃ g t cs fuel p, P.globalNamed n = some g ∧ (P.globals[g]?).map (·.type) = some t ∧ w.var? P n = some cs ∧ DataW.trod (fun _ => ()) P w 0 (fun _ => true) false fuel t cs.toList = some (d, p)
  | [], _, _, hm => by cases hm
  | (n0, d0) :: r, ps, h, hm => by
    obtain ⟨g, t, cs, fuel, p, q, h1, h2, h3, h4, h5, _⟩ := h
    rcases List.mem_cons.1 hm with e | hm
    · cases e; exact ⟨g, t, cs, fuel, p, h1, h2, h3, h4⟩
    · exact laid_mem h5 hm
theorem laid_at {w : World} {n : String} {d : DataW Unit} {L : List (String × DataW Unit)} (h : laidMet Tryz.prog L w) (hm : (n, d) ∈ L) {g t : Nat} (hg : Tryz.prog.globalNamed n = some g) (ht : (Tryz.prog.globals[g]?).map (·.type) = some t) :
    ∃ cs fuel p, w.var? Tryz.prog n = some cs ∧ (∀ i, w.cell? ⟨g, i, none⟩ = cs[i]?) ∧ DataW.trod (fun _ => ()) Tryz.prog w 0 (fun _ => true) false fuel t cs.toList = some (d, p) := by
  obtain ⟨ps, h, _⟩ := h
  obtain ⟨g', t', cs, fuel, p, hg', ht', hv, hd⟩ := laid_mem h hm
  obtain rfl := Option.some.inj (hg.symm.trans hg')
  obtain rfl := Option.some.inj (ht.symm.trans ht')
  exact ⟨cs, fuel, p, hv, World.var?_cell hg hv, hd⟩
def formD (f : List UInt8 × Nat × Bool) : DataW Unit := .agg [.lit (.string f.1), .lit (.int .i64 f.2.1), .lit (.bool f.2.2)]
def formC (f : List UInt8 × Nat × Bool) : List Value := [.string ⟨f.1.toArray⟩, .int .i64 f.2.1, .bool f.2.2]
theorem forms_of {w : World} {n t : Nat} {cs : List Value} {fuel : Nat} {p : List MemPlace} {fs : List (List UInt8 × Nat × Bool)} (ht : Tryz.prog.underlying t = some (.array n 84))
    (hd : DataW.trod (fun _ => ()) Tryz.prog w 0 (fun _ => true) false fuel t cs = some (.agg (fs.map formD), p)) (j : Nat) (f : List UInt8 × Nat × Bool) (hj : fs[j]? = some f) (i : Nat) (v : Value) (hi : (formC f)[i]? = some v) : cs[j * 3 + i]? = some v := by
  obtain ⟨xs, m, _, ex, _, hl, hel⟩ := DataW.trod_array ht hd
  have c84 : Tryz.prog.cellsOf 84 = 3 := by kernel_rfl
  have hx : fs.map formD = xs.map (·.1) := DataW.agg.inj (Prod.mk.inj ex).1
  have hx1 : (fs.map formD)[j]? = (xs.map (·.1))[j]? := by rw [hx]
  rw [List.getElem?_map, List.getElem?_map, hj] at hx1
  have hjn : j < n := by
    rcases Nat.lt_or_ge j xs.length with h | h
    · omega
    · rw [List.getElem?_eq_none h] at hx1; cases hx1
  have hE := hel j hjn
  rw [c84] at hE
  obtain ⟨x, hxj⟩ : ∃ x, xs[j]? = some x := ⟨xs[j]'(by omega), List.getElem?_eq_getElem _⟩
  rw [hxj] at hE hx1
  have hf : formD f = x.1 := Option.some.inj hx1
  obtain ⟨y0, y1, y2, k, hy, _, h0, h1, h2⟩ := Go.Deep.trod_struct3 Tryz.underlying84 hE
  rw [hy] at hf
  unfold formD at hf
  simp only [DataW.agg.injEq, List.cons.injEq, and_true] at hf
  obtain ⟨e0, e1, e2⟩ := hf
  obtain ⟨s, hs, hy0, _⟩ := DataW.trod_string (show Tryz.prog.underlying _ = some .string from Tryz.underlying9) h0
  obtain ⟨z, hz, hy1, _⟩ := DataW.trod_int (show Tryz.prog.underlying _ = some (.int .i64) from Tryz.underlying3) h1
  obtain ⟨b, hb, hy2⟩ := DataW.trod_bool (show Tryz.prog.underlying _ = some .bool from Tryz.underlying4) h2
  rw [hy0] at e0
  rw [hy1] at e1
  rw [hy2] at e2
  simp only [DataW.lit.injEq, Lit.string.injEq, Lit.int.injEq, Lit.bool.injEq, true_and] at e0 e1 e2
  have k0 : cs[j * 3]? = some (.string s) := by
    have := congrArg (·[0]?) hs
    simpa [c84, List.getElem?_take, List.getElem?_drop, show Tryz.prog.cellsOf 9 = 1 by kernel_rfl] using this
  have k1 : cs[j * 3 + 1]? = some (.int .i64 z) := by
    have := congrArg (·[0]?) hz
    simpa [c84, List.getElem?_take, List.getElem?_drop, show Tryz.prog.cellsOf 3 = 1 by kernel_rfl] using this
  have k2 : cs[j * 3 + 2]? = some (.bool b) := by
    have := congrArg (·[0]?) hb
    simpa [c84, List.getElem?_take, List.getElem?_drop, show Tryz.prog.cellsOf 4 = 1 by kernel_rfl] using this
  unfold formC at hi
  match i, hi with
  | 0, hi => cases hi; rw [Nat.add_zero, k0, e0]
  | 1, hi => cases hi; rw [k1, e1]
  | 2, hi => cases hi; rw [k2, e2]
theorem actsD : Rows.laid_guilloche_script_acts = .agg ((actWords.map fun f => (f.1, f.2, false)).map formD) := by rfl
theorem powD : (Rows.laid_internal_strconv_uint64pow10 : DataW Unit) = Lib.tabData .u64 Lib.pow10Tab := by rfl
theorem err_of {w : World} {cs : Array Value} {fuel : Nat} {p : List MemPlace} {nm : String} {d : DataW Unit} (hd : DataW.trod (fun _ => ()) Tryz.prog w 0 (fun _ => true) false fuel 158 cs.toList = some (.iface nm d, p)) : ∃ u v, cs[0]? = some (.iface u v) := by
  obtain ⟨_, u, v, h, _⟩ := iface_of_trod Tryz.underlying158 hd
  refine ⟨u, v, ?_⟩
  rw [← Array.getElem?_toList, h]
  rfl
theorem tab_of {w : World} {L : List (String × DataW Unit)} (h : laidMet Tryz.prog L w) (hm : ("internal/strconv.uint64pow10", Rows.laid_internal_strconv_uint64pow10) ∈ L) : Lib.TabIs Tryz.prog w "internal/strconv.uint64pow10" .u64 Lib.pow10Tab := by
  obtain ⟨cs, fuel, p, hv, _, hd⟩ := laid_at h hm (g := 7) (t := 252) (by kernel_rfl) (by kernel_rfl)
  rw [powD] at hd
  have := Lib.cells_of_tab Tryz.underlying252 Tryz.underlying220 (by kernel_rfl) (by kernel_rfl) hd
  unfold Lib.TabIs
  rw [hv, ← this]
end Go.Proofs.YtddnmocoaahlfaaGreatDoor
namespace Go.Proofs.YtddnmocoaahlfaaGreatDoor
open Go.ChangeShapes Go.WideShapes Go.ChangeAt Go.RowKit
structure Lists (L : List (String × DataW Unit)) : Prop where
  tab : ("internal/strconv.uint64pow10", Rows.laid_internal_strconv_uint64pow10) ∈ L
  errR : ("strconv.ErrRange", Rows.laid_strconv_ErrRange) ∈ L
  errS : ("strconv.ErrSyntax", Rows.laid_strconv_ErrSyntax) ∈ L
  acts : ("guilloche/script.acts", Rows.laid_guilloche_script_acts) ∈ L
theorem acts_of {w : World} {L : List (String × DataW Unit)} (h : laidMet Tryz.prog L w) (hm : ("guilloche/script.acts", Rows.laid_guilloche_script_acts) ∈ L) : Acts w := by
  obtain ⟨cs, fuel, p, _, hc, hd⟩ := laid_at h hm (g := 0) (t := 85) (by kernel_rfl) (by kernel_rfl)
  rw [actsD] at hd
  have key : ∀ j, j < 17 → ∀ i v, (formV actWords[j]!)[i]? = some v → w.cell? ⟨0, 0 + j * 3 + i, none⟩ = some v := by
    intro j hj i v hi
    rw [hc, ← Array.getElem?_toList, Nat.zero_add]
    have hl : actWords.length = 17 := rfl
    have hg : actWords[j]! = actWords[j]'(by omega) := by simp [hl, hj]
    rw [hg] at hi
    refine forms_of Tryz.underlying85 hd j ((actWords[j]'(by omega)).1, (actWords[j]'(by omega)).2, false) ?_ i v hi
    rw [List.getElem?_map, List.getElem?_eq_getElem (by omega)]
    rfl
  exact ⟨World.block_lt_of_cell? _ _ (key 0 (by decide) 0 _ rfl), key⟩
theorem env_of {w : World} {L : List (String × DataW Unit)} (hL : Lists L) (h : laidMet Tryz.prog L w) (hs : w.ShapedOpen Tryz.prog) : Env w := by
  refine ⟨acts_of h hL.acts, Tryz.laysM146.s1_3 w hs, ?_, ?_, tab_of h hL.tab⟩
  · obtain ⟨cs, fuel, p, _, hc, hd⟩ := laid_at h hL.errR (g := 6) (t := 158) (by kernel_rfl) (by kernel_rfl)
    obtain ⟨u, v, hv⟩ := err_of hd
    exact ⟨_, (hc 0).trans hv, .inr ⟨u, v, rfl⟩⟩
  · obtain ⟨cs, fuel, p, _, hc, hd⟩ := laid_at h hL.errS (g := 5) (t := 158) (by kernel_rfl) (by kernel_rfl)
    obtain ⟨u, v, hv⟩ := err_of hd
    exact ⟨_, (hc 0).trans hv, .inr ⟨u, v, rfl⟩⟩
end Go.Proofs.YtddnmocoaahlfaaGreatDoor
