/-
  The parts of the lines of let, for and if; an execution stored cell by cell.
  The law of a region that draws its order, with any change of the world that follows on others.
  The change of the world where an execution is put into its block, for a region that draws its order.
  What the loop of the reference's for knows, and small laws for it.
  A value in a still walk, by its run; what follows a region that draws: the world by another name.
  The end of if.
  The law of a region that draws its order, by one statement on what has come up, its values and the world. No condition.
-/
import Derived.Test.YtddnmocoaahlfaaGreatDoorY35
import Derived.Test.YtddnmocoaahlfaaGreatDoorCmK
import Derived.Test.YtddnmocoaahlfaaGreatDoorRunLaw
import Derived.StillTailTactics
set_option linter.unusedVariables false
set_option linter.unusedSimpArgs false
namespace Go.Proofs.YtddnmocoaahlfaaGreatDoor
open Go.RowKit Go.Shelf
theorem parts_named1 {nm : List UInt8} {t : List (List UInt8)} {xs : List Ex} (h : partsL sLet t = some (nm, xs)) : ∃ t', t = nm :: t' ∧ t'.length = 1 ∧ exprsL t' = some xs := by
  unfold partsL at h
  rw [if_pos rfl] at h
  unfold namedL at h
  cases t with
  | nil => cases h
  | cons a b =>
    simp only at h
    split at h
    · rename_i hc
      obtain ⟨y, hy, h2⟩ := Option.map_eq_some_iff.1 h
      injection h2 with h1 h2
      subst h1
      subst h2
      exact ⟨b, rfl, hc.1, hy⟩
    · cases h
theorem parts_named2 {nm : List UInt8} {t : List (List UInt8)} {xs : List Ex} (h : partsL sFor t = some (nm, xs)) : ∃ t', t = nm :: t' ∧ t'.length = 2 ∧ exprsL t' = some xs := by
  unfold partsL at h
  rw [if_neg (by decide), if_pos rfl] at h
  unfold namedL at h
  cases t with
  | nil => cases h
  | cons a b =>
    simp only at h
    split at h
    · rename_i hc
      obtain ⟨y, hy, h2⟩ := Option.map_eq_some_iff.1 h
      injection h2 with h1 h2
      subst h1
      subst h2
      exact ⟨b, rfl, hc.1, hy⟩
    · cases h
theorem parts_if {nm : List UInt8} {t : List (List UInt8)} {xs : List Ex} (h : partsL sIf t = some (nm, xs)) : t.length = 1 ∧ exprsL t = some xs := by
  unfold partsL at h
  rw [if_neg (by decide), if_neg (by decide), if_pos rfl] at h
  unfold simpleL at h
  split at h
  · cases h
  · obtain ⟨y, hy, h2⟩ := Option.map_eq_some_iff.1 h
    injection h2 with _ h2
    subst h2
    exact ⟨by omega, hy⟩
end Go.Proofs.YtddnmocoaahlfaaGreatDoor
namespace Go.Proofs.YtddnmocoaahlfaaGreatDoor
open Go.RowKit Go.Shelf
section
variable {P : Program} {ops : Array Oper} {Q : Exit → Act → World → Prop}
structure DoneR (ρ : World → World → Prop) (ops : Array Oper) (G : Nat → Value → World → Prop) (a0 : Act) (w0 : World) (listed : Array Bool) (vals : Nat → Value) (w : World) : Prop where
  size : listed.size = ops.size
  below : ρ w0 w
  said : ∀ i, i < ops.size → listed.getD i true = true → G i (vals i) w
  closed : ∀ (j : Nat) (oj : Oper), ops[j]? = some oj → listed.getD j true = true → ∀ e ∈ oj.after, Region.binds .any e = true → listed.getD e.on true = true
def OpSaysR (ρ : World → World → Prop) (P : Program) (ops : Array Oper) (Q : Exit → Act → World → Prop) (G : Nat → Value → World → Prop) (a0 : Act) (w0 : World) (i : Nat) (o : Oper) : Prop :=
  ∀ (a : Act) (w : World) (vals : Nat → Value), (∀ t, (∀ (j : Nat) (oj : Oper), ops[j]? = some oj → oj.dst = some t → ∃ e ∈ oj.after, e.on = i ∧ Region.binds .any e = true) → a.eval (.tmp t) = a0.eval (.tmp t)) →
    (∀ e ∈ o.after, Region.binds .any e = true → G e.on (vals e.on) w ∧ ∀ d, dstOf ops e.on = some d → a.eval (.tmp d) = vals e.on) → ρ w0 w →
    o.wp P a w (fun a' w' => ∃ v, a' = a.put o.dst v ∧ G i v w' ∧ ρ w w') Q
theorem wpAny_doneR {ρ : World → World → Prop} (htr : ∀ a b c, ρ a b → ρ b c → ρ a c) {G : Nat → Value → World → Prop} {a0 : Act} {w0 : World} (hf : FineOps2 ops a0.tmps.size)
    (stable : ∀ i v w w', G i v w → ρ w w' → G i v w')
    (H : ∀ i o, ops[i]? = some o → OpSaysR ρ P ops Q G a0 w0 i o)
    (hQ : ∀ vals w, ρ w0 w → (∀ i, i < ops.size → G i (vals i) w) → Q .normal (laid ops vals (fun _ => true) a0 ops.size) w) :
    ∀ (fuel : Nat) (listed : Array Bool) (vals : Nat → Value) (w : World), DoneR ρ ops G a0 w0 listed vals w → cntR (fun i => listed.getD i true) ops.size ≤ fuel →
      wpAny P .any ops Q fuel listed (laid ops vals (fun i => listed.getD i true) a0 ops.size) w := by
  have fin : ∀ (listed : Array Bool) (vals : Nat → Value) (w : World), DoneR ρ ops G a0 w0 listed vals w → Region.ready .any ops listed = [] → Q .normal (laid ops vals (fun i => listed.getD i true) a0 ops.size) w := by
    intro listed vals w hd hr
    have hall := all_listed2 hf hd.size hr
    rw [laid_congr (vals' := vals) (L' := fun _ => true) ops.size (fun i hi => ⟨hall i hi, fun _ => rfl⟩)]
    exact hQ vals w hd.below (fun i hi => hd.said i hi (hall i hi))
  intro fuel
  induction fuel with
  | zero =>
    intro listed vals w hd hc
    have hall := cntR_zero _ (Nat.le_zero.1 hc)
    have hr : Region.ready .any ops listed = [] := by
      cases hr : Region.ready .any ops listed with
      | nil => rfl
      | cons j js =>
        exfalso
        obtain ⟨hl, o, ho, _⟩ := mem_ready.1 (show j ∈ Region.ready .any ops listed by rw [hr]; simp)
        have := hall j (Array.getElem?_eq_some_iff.1 ho).1
        rw [this] at hl
        cases hl
    exact ⟨hr, fin listed vals w hd hr⟩
  | succ fuel ih =>
    intro listed vals w hd hc
    refine ⟨fun hr => fin listed vals w hd hr, fun i hi => ?_⟩
    obtain ⟨hl, o, ho, hall⟩ := mem_ready.1 hi
    have hin := (Array.getElem?_eq_some_iff.1 ho).1
    have hdo : dstOf ops i = o.dst := by unfold dstOf; rw [ho]; rfl
    unfold wpOp
    rw [ho]
    simp only
    have hw : Region.wanted o (yielded ops (laid ops vals (fun i => listed.getD i true) a0 ops.size).tmps) = true := by
      unfold Region.wanted; rw [hf.guard i o ho]
    rw [if_pos hw]
    refine .inl ?_
    refine Oper.wp_mono ?_ (H i o ho (laid ops vals (fun i => listed.getD i true) a0 ops.size) w vals (fun t ht => laid_out _ (fun j hj hLj hdj => by
      obtain ⟨oj, hoj⟩ : ∃ oj, ops[j]? = some oj := ⟨_, Array.getElem?_eq_getElem hj⟩
      have hdj' : oj.dst = some t := by unfold dstOf at hdj; rw [hoj] at hdj; exact hdj
      obtain ⟨e, he, h1, h2⟩ := ht j oj hoj hdj'
      have := hd.closed j oj hoj hLj e he h2
      rw [h1, hl] at this
      cases this)) (fun e he hb => ?_) hd.below)
    · rintro a' w' ⟨v, rfl, hg, hb⟩
      have hnew : laid ops (updV vals i v) (fun j => (listed.setIfInBounds i true).getD j true) a0 ops.size = (laid ops vals (fun i => listed.getD i true) a0 ops.size).put o.dst v := by
        rw [← hdo, ← laid_put (v := v) (L := fun i => listed.getD i true) hl (fun j hj d h1 h2 => hf.apart i j (Ne.symm hj) d h1 h2) ops.size hin]
        refine laid_congr _ (fun j hj => ⟨?_, fun _ => rfl⟩)
        unfold updL
        by_cases hji : j = i
        · subst hji; rw [if_pos rfl, getD_set_self (by rw [hd.size]; exact hin)]
        · rw [if_neg hji, getD_set_ne true (Ne.symm hji)]
      rw [← hnew]
      refine ih _ _ _ ⟨by simp [hd.size], htr _ _ _ hd.below hb, fun j hj hlj => ?_, fun j oj hoj hlj e he hbe => ?_⟩ ?_
      · by_cases hji : j = i
        · subst hji; simp only [updV, if_pos]; exact hg
        · rw [getD_set_ne true (Ne.symm hji)] at hlj
          simp only [updV, if_neg hji]
          exact stable j _ _ _ (hd.said j hj hlj) hb
      · have hmono : ∀ k, listed.getD k true = true → (listed.setIfInBounds i true).getD k true = true := fun k hk => by
          by_cases hki : i = k
          · subst hki; rw [hl] at hk; cases hk
          · rw [getD_set_ne true hki]; exact hk
        by_cases hji : j = i
        · subst hji
          obtain rfl := Option.some.inj (hoj.symm.trans ho)
          refine hmono _ ?_
          have h1 := hall e he hbe
          have h2 := hf.acyc j oj ho e he hbe
          rw [getD_flip (by rw [hd.size]; omega)]
          exact h1
        · rw [getD_set_ne true (Ne.symm hji)] at hlj
          exact hmono _ (hd.closed j oj hoj hlj e he hbe)
      · have h1 := cntR_upd (f := fun i => listed.getD i true) hl ops.size hin
        rw [cntR_congr (g := fun j => (listed.setIfInBounds i true).getD j true) ops.size (fun j hj => by
          unfold updL
          by_cases hji : j = i
          · subst hji; rw [if_pos rfl, getD_set_self (by rw [hd.size]; exact hin)]
          · rw [if_neg hji, getD_set_ne true (Ne.symm hji)])] at h1
        omega
    · have h1 := hall e he hb
      have h2 := hf.acyc i o ho e he hb
      have h3 : listed.getD e.on true = true := by
        have : e.on < listed.size := by rw [hd.size]; omega
        rw [getD_flip this]
        exact h1
      exact ⟨hd.said e.on (by omega) h3, fun d hdd => laidv_at h3 hdd (hf.inside _ _ hdd) (fun j hj h => hf.apart e.on j (Ne.symm hj) d hdd h) _ (by omega)⟩
theorem wp_region_rho {id : Nat} {a : Act} {w : World} (ρ : World → World → Prop) (htr : ∀ a b c, ρ a b → ρ b c → ρ a c) (hdr : ρ w w.drew) (hm : P.follows .mixedOrders = true) (hf : fineOps2 ops a.tmps.size = true) (G : Nat → Value → World → Prop)
    (stable : ∀ i v w w', G i v w → ρ w w' → G i v w')
    (H : ∀ i o, ops[i]? = some o → OpSaysR ρ P ops Q G a w i o)
    (hQ : ∀ vals w', ρ w w' → (∀ i, i < ops.size → G i (vals i) w') → Q .normal (laid ops vals (fun _ => true) a ops.size) w') : (Code.region id ops true).wp P Q a w := by
  refine wp_region_any hm ?_
  have hl : ∀ i, i < ops.size → (Array.replicate ops.size false).getD i true = false := fun i hi => by simp [hi]
  have := wpAny_doneR (P := P) (Q := Q) htr (fineOps2_spec hf) stable H hQ ops.size (Array.replicate ops.size false) (fun _ => undef) w.drew
    ⟨by simp, hdr, (fun i hi h => by rw [hl i hi] at h; cases h), (fun j oj hoj h => by rw [hl j (Array.getElem?_eq_some_iff.1 hoj).1] at h; cases h)⟩ (by
      have : ∀ (f : Nat → Bool) n, cntR f n ≤ n := by
        intro f n
        induction n with
        | zero => exact Nat.le_refl _
        | succ n ih => unfold cntR; split <;> omega
      exact this _ _)
  rw [laid_none ops.size hl] at this
  exact this
end
structure KpR (ρ : World → World → Prop) where
  p : Value → World → Prop
  st : ∀ v w w', p v w → ρ w w' → p v w'
def KpR.is {ρ : World → World → Prop} (u : Value) : KpR ρ := ⟨fun v _ => v = u, fun _ _ _ h _ => h⟩
def KpR.any {ρ : World → World → Prop} : KpR ρ := ⟨fun _ _ => True, fun _ _ _ h _ => h⟩
def GR {ρ : World → World → Prop} (ks : List (KpR ρ)) : Nat → Value → World → Prop := fun i => (ks.getD i KpR.any).p
theorem GR.stable {ρ : World → World → Prop} (ks : List (KpR ρ)) (i : Nat) (v : Value) (w w' : World) (h : GR ks i v w) (b : ρ w w') : GR ks i v w' := (ks.getD i KpR.any).st v w w' h b
def OpAt (ops : Array Oper) (i : Nat) (op : Op) (d : Option Tmp) (deps : List Nat) : Prop := ∃ o, ops[i]? = some o ∧ o.op = op ∧ o.dst = d ∧ ∀ j ∈ deps, ∃ e ∈ o.after, e.on = j ∧ Region.binds .any e = true
theorem OpAt.dst {ops : Array Oper} {i : Nat} {op : Op} {d : Option Tmp} {deps : List Nat} (h : OpAt ops i op d deps) : dstOf ops i = d := by
  obtain ⟨o, ho, _, hd, _⟩ := h
  unfold dstOf; rw [ho]; exact hd
section
variable {P : Program} {ops : Array Oper} {Q : Exit → Act → World → Prop} {ρ : World → World → Prop} {G : Nat → Value → World → Prop} {a0 : Act} {w0 : World}
structure ComeR (ρ : World → World → Prop) (ops : Array Oper) (G : Nat → Value → World → Prop) (a0 : Act) (w0 : World) (i : Nat) (deps : List Nat) (a : Act) (w : World) : Prop where
  late : ∀ t, (∀ (j : Nat) (oj : Oper), ops[j]? = some oj → oj.dst = some t → ∃ e ∈ oj.after, e.on = i ∧ Region.binds .any e = true) → a.eval (.tmp t) = a0.eval (.tmp t)
  inn : ∀ j ∈ deps, (∃ v, G j v w) ∧ ∀ d, dstOf ops j = some d → G j (a.eval (.tmp d)) w
  below : ρ w0 w
theorem ComeR.out {i : Nat} {deps : List Nat} {a : Act} {w : World} (hc : ComeR ρ ops G a0 w0 i deps a w) (x : Tmp) (h : noDst ops x = true) : a.eval (.tmp x) = a0.eval (.tmp x) :=
  hc.late x fun j oj hoj hd => absurd (show dstOf ops j = some x by unfold dstOf; rw [hoj]; exact hd) (noDst_spec h j)
theorem ComeR.get {i : Nat} {deps : List Nat} {a : Act} {w : World} (hc : ComeR ρ ops G a0 w0 i deps a w) {j : Nat} {d : Tmp} {op : Op} {dd : List Nat} (hj : j ∈ deps) (h : OpAt ops j op (some d) dd) : G j (a.eval (.tmp d)) w := (hc.inn j hj).2 d h.dst
def OkR (ρ : World → World → Prop) (P : Program) (ops : Array Oper) (Q : Exit → Act → World → Prop) (G : Nat → Value → World → Prop) (a0 : Act) (w0 : World) (i : Nat) : Prop := ∀ o, ops[i]? = some o → OpSaysR ρ P ops Q G a0 w0 i o
theorem okR_of {i : Nat} {op : Op} {d : Option Tmp} {deps : List Nat} (h : OpAt ops i op d deps) (H : ∀ (o : Oper), o.op = op → o.dst = d → ∀ (a : Act) (w : World), ComeR ρ ops G a0 w0 i deps a w → o.wp P a w (fun a' w' => ∃ v, a' = a.put o.dst v ∧ G i v w' ∧ ρ w w') Q) : OkR ρ P ops Q G a0 w0 i := by
  intro o ho
  obtain ⟨o', ho', h1, h2, h3⟩ := h
  obtain rfl := Option.some.inj (ho.symm.trans ho')
  intro a w vals hout hin hb
  refine H o h1 h2 a w ⟨hout, fun j hj => ?_, hb⟩
  obtain ⟨e, he, rfl, hbd⟩ := h3 j hj
  obtain ⟨g1, g2⟩ := hin e he hbd
  refine ⟨⟨_, g1⟩, fun d hd => ?_⟩
  rw [g2 d hd]; exact g1
theorem okR_val {i : Nat} {op : Op} {d : Tmp} {deps : List Nat} (h : OpAt ops i op (some d) deps) (S : (Operand → Value) → Sem Value) (hex : ∀ (ρ : Operand → Value) (o : Oper), o.op = op → execOp ρ o = (do pure (.value (← S ρ))))
    (hrun : ∀ a w, ComeR ρ ops G a0 w0 i deps a w → ∃ v w', (S a.eval).run P w = .ok v w' ∧ G i v w' ∧ ρ w w') : OkR ρ P ops Q G a0 w0 i :=
  okR_of h fun o h1 h2 a w hc => by
    obtain ⟨v, w', hr, hs, hb⟩ := hrun a w hc
    exact oper_val (S a.eval) (hex a.eval o h1) v hr ⟨v, rfl, hs, hb⟩
theorem okR_move {i : Nat} {x : Operand} {op : Op} {d : Tmp} {deps : List Nat} (hrf : ∀ w, ρ w w) (h : OpAt ops i op (some d) deps) (hop : op = .move x ∨ op = .assign x) (hs : ∀ a w, ComeR ρ ops G a0 w0 i deps a w → G i (a.eval x) w) : OkR ρ P ops Q G a0 w0 i :=
  okR_of h fun o h1 h2 a w hc => by
    refine oper_same (a.eval x) ?_ ⟨_, rfl, hs a w hc, hrf _⟩
    unfold execOp; rw [h1]; rcases hop with rfl | rfl <;> rfl
theorem okR_store {i : Nat} {T : TypeId} {x y : Operand} {deps : List Nat} (h : OpAt ops i (.store T x y) none deps)
    (hrun : ∀ a w, ComeR ρ ops G a0 w0 i deps a w → ∃ w', (Instr.storeAt T (a.eval x) (a.eval y)).run P w = .ok () w' ∧ (∀ v, G i v w') ∧ ρ w w') : OkR ρ P ops Q G a0 w0 i :=
  okR_of h fun o h1 h2 a w hc => by
    obtain ⟨w', hr, hs, hb⟩ := hrun a w hc
    have hex : execOp a.eval o = (do Instr.storeAt T (a.eval x) (a.eval y); pure .skip) := by unfold execOp; rw [h1]
    unfold Oper.wp
    simp only [hex, Sem.run_bind, Sem.run_pure, hr, Result.andThen_ok]
    refine ⟨undef, ?_, hs _, hb⟩
    rw [h2] <;> rfl
theorem okR_call {i : Nat} {d : Nat} {f : FuncId} {args : Array Operand} {ats : Array TypeId} {deps : List Nat} (h : OpAt ops i (.call { callee := .value (.func f), args := args, argTypes := ats }) (some d) deps)
    (H : ∀ (o : Oper) (a : Act) (w : World), o.op = .call { callee := .value (.func f), args := args, argTypes := ats } → ComeR ρ ops G a0 w0 i deps a w → ∃ vs, (execOp a.eval o).run P w = .ok (.enter f vs) w ∧ Calls P f vs w (fun e w' => ρ w w' ∧ ∃ u, e = .returned u ∧ G i u w')) : OkR ρ P ops Q G a0 w0 i :=
  okR_of h fun o h1 h2 a w hc => by
    obtain ⟨vs, hr, hcall⟩ := H o a w h1 hc
    unfold Oper.wp
    rw [hr]
    simp only [Oper.upon]
    refine Calls.mono hcall ?_
    rintro e w' ⟨hb, u, rfl, hs⟩
    exact ⟨u, rfl, hs, hb⟩
end
end Go.Proofs.YtddnmocoaahlfaaGreatDoor
namespace Go.Proofs.YtddnmocoaahlfaaGreatDoor
open Go.RowKit Go.Shelf
def RhoD (D : Nat) (Good : World → Prop) (w w' : World) : Prop := Stays (fun k => k = D) w w' ∧ ((∃ cs, Blk w D cs 130 ∧ cs.size = 6) → ∃ cs, Blk w' D cs 130 ∧ cs.size = 6) ∧ (Good w → Good w')
theorem RhoD.refl {D : Nat} {Good : World → Prop} (w : World) : RhoD D Good w w := ⟨.refl _ w, id, id⟩
theorem RhoD.trans {D : Nat} {Good : World → Prop} (a b c : World) (h : RhoD D Good a b) (k : RhoD D Good b c) : RhoD D Good a c := ⟨h.1.trans k.1, fun x => k.2.1 (h.2.1 x), fun x => k.2.2 (h.2.2 x)⟩
theorem RhoD.drew {D : Nat} {Good : World → Prop} (w : World) (hg : Good w → Good w.drew) : RhoD D Good w w.drew := ⟨(Stays.refl _ w).drew, fun ⟨cs, h⟩ => ⟨cs, h⟩, hg⟩
theorem RhoD.of {D : Nat} {Good : World → Prop} {w w' : World} (b : Below w.heap.size w w') (hg : Good w → Good w') : RhoD D Good w w' := ⟨.of b, fun ⟨cs, h, h2⟩ => ⟨cs, h.below b, h2⟩, hg⟩
theorem RhoD.store {D : Nat} {Good : World → Prop} {w : World} {cs : Array Value} (c' : Array Value) (hb : Blk w D cs 130) (hs : c'.size = 6) (hg : Good (w.setRow D c')) : RhoD D Good w (w.setRow D c') :=
  ⟨setRow_stays w D c', fun _ => ⟨c', setRow_heap w D cs c' 130 hb, hs⟩, fun _ => hg⟩
def GoodX (D b : Nat) (A : Value) (st : Int) (σ : List UInt8 → Option Int) (m : Nat) (w : World) : Prop := ∃ N V, Slc N ∧ Slc V ∧ Blk w D (rnC A N V st 0 0) 130 ∧ VarsAt w b N V σ m
theorem GoodX.below {D b : Nat} {A : Value} {st : Int} {σ : List UInt8 → Option Int} {m : Nat} {w w' : World} (h : GoodX D b A st σ m w) (bl : Below w.heap.size w w') : GoodX D b A st σ m w' := by
  obtain ⟨N, V, h1, h2, h3, h4⟩ := h
  exact ⟨N, V, h1, h2, h3.below bl, h4.below bl⟩
def KX (D : Nat) (Good : World → Prop) (b : Nat) (A : Value) (st : Int) (σ : List UInt8 → Option Int) (m : Nat) : KpR (RhoD D Good) :=
  ⟨fun v w => (∃ cs, Blk w D cs 130 ∧ cs.size = 6) ∧ ∃ N V, v = rnV A N V st 0 0 ∧ Slc N ∧ Slc V ∧ VarsAt w b N V σ m, fun v w w' ⟨⟨cs, hb, hs⟩, N, V, h1, h2, h3, h4⟩ ⟨r1, r2, r3⟩ => ⟨r2 ⟨cs, hb, hs⟩, N, V, h1, h2, h3, h4.stays hb (by decide) (by decide) r1⟩⟩
def KG (D : Nat) (Good : World → Prop) : KpR (RhoD D Good) := ⟨fun _ w => Good w, fun _ _ _ h r => r.2.2 h⟩
theorem idx22 {L o n c k : Nat} (h : k < n) (w : World) : (Instr.indexAt 22 (.slice (some ⟨L, o, none⟩) n c) (.int .i64 (k : Int))).run Tryz.prog w = .ok (.pointer (some ⟨L, o + k, none⟩)) w := by
  have u22 := Tryz.underlying22
  have z3 := Tryz.sizeOf3
  have d1 : ¬ ((k : Int) < 0) := by omega
  have d2 : (k : Int) < (n : Int) := by omega
  simp [Instr.indexAt, go_sem, u22, z3, d1, d2, Addr.add, h]
theorem add_run (m n : Int) (x y : Operand) (w : World) (h : I64 (m + n)) : (do eqGuard .add 3 x y (.int .i64 m) (.int .i64 n); binOp .add 3 (.int .i64 m) (.int .i64 n) : Sem Value).run Tryz.prog w = .ok (.int .i64 (m + n)) w := by
  have h' : IntKind.i64.wrap (m + n) = m + n := IntWalk.i64_in _ h
  simp [eqGuard, binOp, go_sem, h']
theorem set_keep {w w' : World} {b D : Nat} {A : Value} {st : Int} {σ : List UInt8 → Option Int} {m : Nat} {x : Ending} (hD : ∃ cs, Blk w D cs 130 ∧ cs.size = 6) {Good : World → Prop} (hg : ∀ w w', Good w → Below w.heap.size w w' → Good w')
    (h : Below w.heap.size w w' ∧ ∃ N' V', x = .returned (rnV A N' V' st 0 0) ∧ VarsAt w' b N' V' σ m) : RhoD D Good w w' ∧ ∃ u, x = .returned u ∧ (KX D Good b A st σ m).p u w' := by
  obtain ⟨h1, N', V', h2, h3⟩ := h
  have hr : RhoD D Good w w' := RhoD.of h1 (fun g => hg _ _ g h1)
  exact ⟨hr, _, h2, hr.2.1 hD, N', V', rfl, h3.slcs.1, h3.slcs.2, h3⟩
end Go.Proofs.YtddnmocoaahlfaaGreatDoor
namespace Go.Proofs.YtddnmocoaahlfaaGreatDoor
open Go.RowKit Go.Shelf
theorem fld126 (R k : Nat) (hk : k < 3) (w : World) : (Instr.fieldAt 126 (.pointer (some ⟨R, 0, none⟩)) k).run Tryz.prog w = .ok (.pointer (some ⟨R, k, none⟩)) w := by
  have : k = 0 ∨ k = 1 ∨ k = 2 := by omega
  rcases this with rfl | rfl | rfl <;> simp [Instr.fieldAt, go_sem, Tryz.sizeOf22, Addr.add]
theorem ld22 (R k : Nat) (v : Value) (w : World) (h : w.cell? ⟨R, k, none⟩ = some v) : (Instr.loadAt 22 (.pointer (some ⟨R, k, none⟩))).run Tryz.prog w = .ok v w := by simp [go_sem, Instr.loadAt, Instr.sureAddr, h]
theorem exprs_fine {ws : List (List UInt8)} {xs : List Ex} (h : exprsL ws = some xs) : ∀ x ∈ xs, Fine x := by
  intro x hx
  obtain ⟨h1, h2⟩ := exprs_get h
  obtain ⟨i, hi, rfl⟩ := List.getElem_of_mem hx
  obtain ⟨y, hy, hp⟩ := h2 i (by omega)
  rw [List.getElem?_eq_getElem hi] at hy
  injection hy with hy
  rw [hy]; exact parseE_fine hp
def FoAt (b0 : Nat) (f : Ran → Res) (line : Nat) (nm : List UInt8) (n0 n1 : Int) (res : Res) (wr : World) (g : Nat) (A N V : Value) (st e ln v : Int) : Prop :=
  (∃ (fuel : Nat) (s : Ran), st = s.steps ∧ e = 0 ∧ ln = 0 ∧ loopL f line nm fuel v n1 s = res ∧ 16385 ≤ fuel + s.steps ∧ RnSt wr b0 A N V s ∧ g = (n1 + 1 - v).toNat + 1) ∨
  (e ≠ 0 ∧ (∃ line : Nat, ln = line ∧ res = .error (e, line)) ∧ Slc A ∧ Slc N ∧ Slc V ∧ g = 0)
theorem FoAt.forms {b0 : Nat} {f : Ran → Res} {line : Nat} {nm : List UInt8} {n0 n1 : Int} {res : Res} {wr : World} {g : Nat} {A N V : Value} {st e ln v : Int} (h : FoAt b0 f line nm n0 n1 res wr g A N V st e ln v) : Slc A ∧ Slc N ∧ Slc V := by
  rcases h with ⟨_, s, _, _, _, _, _, h, _⟩ | ⟨_, _, h1, h2, h3, _⟩
  · exact ⟨h.acts.slc, h.vars.slcs.1, h.vars.slcs.2⟩
  · exact ⟨h1, h2, h3⟩
theorem foAt_fin {b0 : Nat} {f : Ran → Res} {line nx : Nat} {nm : List UInt8} {n0 n1 : Int} {res : Res} {w wr wx : World} {g D : Nat} {A N V : Value} {st e ln v : Int} {c0 : Array Value} (h : FoAt b0 f line nm n0 n1 res wr g A N V st e ln v) (hend : ¬ (e = 0 ∧ v ≤ n1)) (hD : b0 ≤ D) (hDw : w.heap.size ≤ D) (l : Below b0 w wr) (k : KeptA w wr) (BD : Blk wr D c0 130) (sD : Stays (fun k => k = D) wr wx) :
    RetOne b0 w res nx (.returned (.tuple #[rnV A N V st e ln, .int .i64 nx])) wx := by
  have lfin := l.trans (sD.below (by have := BD.lt; omega) (fun j hj e => by have e' : j = D := e; omega))
  have kfin : KeptA w wx := fun kk cur T z hT hk => by
    rw [sD.block kk (by have := (Array.getElem?_eq_some_iff.1 hk).1; have := BD.lt; omega) (fun e => by have e' : kk = D := e; have := (Array.getElem?_eq_some_iff.1 hk).1; omega)]
    exact k kk cur T z hT hk
  rcases h with ⟨fuel, s, h2, h3, h4, h5, h6, h7, h8⟩ | ⟨h1, ⟨line', h2, h3⟩, h4, h5, h6, _⟩
  · rw [loopL_out (fun hv => hend ⟨h3, hv⟩)] at h5
    subst h5 h2 h3 h4
    exact ⟨lfin, kfin, A, N, V, rfl, h7.stays BD (by decide) sD⟩
  · subst h3 h2
    exact ⟨lfin, kfin, h1, A, N, V, st, _, h4, h5, h6, rfl⟩
theorem span_uni {b0 : Nat} {w w' : World} {r : Res} {x : Ending} (h : RetRn b0 w r x w') : Below b0 w w' ∧ KeptA w w' ∧ ∃ A N V st e ln, x = .returned (rnV A N V st e ln) ∧ Slc A ∧ Slc N ∧ Slc V ∧
    ((∃ s, r = .ok s ∧ st = s.steps ∧ e = 0 ∧ ln = 0 ∧ RnSt w' b0 A N V s) ∨ (e ≠ 0 ∧ ∃ line : Nat, ln = line ∧ r = .error (e, line))) := by
  obtain ⟨h1, h2, h3⟩ := h
  refine ⟨h1, h2, ?_⟩
  cases r with
  | ok s =>
    obtain ⟨A, N, V, e, h4⟩ := h3
    exact ⟨A, N, V, _, _, _, e, h4.acts.slc, h4.vars.slcs.1, h4.vars.slcs.2, .inl ⟨s, rfl, rfl, rfl, rfl, h4⟩⟩
  | error p =>
    obtain ⟨e, line⟩ := p
    obtain ⟨he, A, N, V, st, a, b, c, e2⟩ := h3
    exact ⟨A, N, V, _, _, _, e2, a, b, c, .inr ⟨he, line, rfl, rfl⟩⟩
theorem blk_good (D : Nat) (cs : Array Value) : ∀ w w', Blk w D cs 130 → Below w.heap.size w w' → Blk w' D cs 130 := fun w w' h b => h.below b
structure FoB (w0 w wr : World) (A N V : Value) (st e ln : Int) (ps : Array Value) (b4 : Nat) (vs : Value) (l : List Int) : Prop where
  bl : Below w0.heap.size w wr
  kp : KeptA w wr
  br : Blk wr w.heap.size (rnC A N V st e ln) 130
  bp : Blk wr (w.heap.size + 1) ps 126
  bd : ∃ cs8, Blk wr (w.heap.size + 1 + 1) cs8 130 ∧ cs8.size = 6
  row : IRow wr b4 vs l
section
variable {w0 w wr wq : World} {A N V : Value} {st e ln : Int} {ps : Array Value} {b4 : Nat} {vs : Value} {l : List Int}
theorem FoB.below (h : FoB w0 w wr A N V st e ln ps b4 vs l) (hb : w0.heap.size ≤ wr.heap.size) (b : Below wr.heap.size wr wq) : FoB w0 w wq A N V st e ln ps b4 vs l := by
  obtain ⟨h1, h2, h3, h4, ⟨c, h5, h6⟩, h7⟩ := h
  exact ⟨h1.trans (b.mono hb), h2.trans (.below b), h3.below b, h4.below b, ⟨c, h5.below b, h6⟩, own_below h7 b⟩
theorem FoB.kept (h : FoB w0 w wr A N V st e ln ps b4 vs l) (b : Below w0.heap.size wr wq) (k : KeptA wr wq) : FoB w0 w wq A N V st e ln ps b4 vs l := by
  obtain ⟨h1, h2, h3, h4, ⟨c, h5, h6⟩, h7⟩ := h
  exact ⟨h1.trans b, h2.trans k, k.blk h3 (by decide), k.blk h4 (by decide), ⟨c, k.blk h5 (by decide), h6⟩, k.own h7 (by decide)⟩
theorem FoB.put (h : FoB w0 w wr A N V st e ln ps b4 vs l) (hb : w0.heap.size ≤ w.heap.size) (A' N' V' : Value) (st' e' ln' : Int) : FoB w0 w (wr.setRow w.heap.size (rnC A' N' V' st' e' ln')) A' N' V' st' e' ln' ps b4 vs l := by
  obtain ⟨h1, h2, h3, h4, ⟨c, h5, h6⟩, h7⟩ := h
  have s := setRow_stays wr w.heap.size (rnC A' N' V' st' e' ln')
  have hlt := h3.lt
  refine ⟨h1.trans (s.below (by omega) (fun j hj e => by have e' : j = w.heap.size := e; omega)), fun kk cur T z hT hk => ?_, setRow_heap wr w.heap.size _ _ 130 h3, h4.stays s (by omega), ⟨c, h5.stays s (by omega), h6⟩, own_stays h7 h3 (by decide) s⟩
  have hl := (Array.getElem?_eq_some_iff.1 hk).1
  rw [s.block kk (by omega) (fun e => by have e' : kk = w.heap.size := e; omega)]
  exact h2 kk cur T z hT hk
end
end Go.Proofs.YtddnmocoaahlfaaGreatDoor
namespace Go.Proofs.YtddnmocoaahlfaaGreatDoor
open Go.RowKit Go.Shelf
theorem still_val {P : Program} {ops : Array Oper} {w : World} {Q : Act → Prop} {a : Act} {o : Oper} {rest : List Oper} (hgd : o.guard = none) (S : Sem Value) (hex : execOp a.eval o = (do pure (.value (← S)))) (v : Value) (hrun : S.run P w = .ok v w) (h : wpStill P ops w Q rest (a.put o.dst v)) : wpStill P ops w Q (o :: rest) a := by
  refine wpStill_step fun K hK => ?_
  have hw : Region.wanted o (yielded ops a.tmps) = true := by unfold Region.wanted; rw [hgd]
  rw [if_pos hw]
  unfold Oper.still
  simp only [hex, Sem.run_bind, Sem.run_pure, hrun, Result.andThen_ok, Oper.stillUpon]
  exact ⟨trivial, hK _ h⟩
end Go.Proofs.YtddnmocoaahlfaaGreatDoor
namespace Go.Proofs.YtddnmocoaahlfaaGreatDoor
open Go.RowKit Go.Shelf
def EndAt (b0 : Nat) (r : Res) (wr : World) (A N V : Value) (st e ln : Int) : Prop := (∃ s, r = .ok s ∧ st = s.steps ∧ e = 0 ∧ ln = 0 ∧ RnSt wr b0 A N V s) ∨ (e ≠ 0 ∧ ∃ line : Nat, ln = line ∧ r = .error (e, line))
theorem EndAt.put {b0 R : Nat} {r : Res} {w : World} {A N V : Value} {st e ln : Int} {c0 : Array Value} (h : EndAt b0 r w A N V st e ln) (hb : Blk w R c0 130) (cs : Array Value) : EndAt b0 r (w.setRow R cs) A N V st e ln := by
  rcases h with ⟨s, h1, h2, h3, h4, h5⟩ | h
  · exact .inl ⟨s, h1, h2, h3, h4, h5.stays hb (by decide) (setRow_stays w R cs)⟩
  · exact .inr h
theorem if_fin {b0 nx : Nat} {r : Res} {w wr wx : World} {D : Nat} {A N V : Value} {st e ln : Int} {c0 : Array Value} (h : EndAt b0 r wr A N V st e ln) (hA : Slc A) (hN : Slc N) (hV : Slc V) (hD : b0 ≤ D) (hDw : w.heap.size ≤ D) (l : Below b0 w wr) (k : KeptA w wr) (BD : Blk wr D c0 130) (sD : Stays (fun k => k = D) wr wx) :
    RetOne b0 w r nx (.returned (.tuple #[rnV A N V st e ln, .int .i64 nx])) wx := by
  have lfin := l.trans (sD.below (by have := BD.lt; omega) (fun j hj e => by have e' : j = D := e; omega))
  have kfin : KeptA w wx := fun kk cur T z hT hk => by
    rw [sD.block kk (by have := (Array.getElem?_eq_some_iff.1 hk).1; have := BD.lt; omega) (fun e => by have e' : kk = D := e; have := (Array.getElem?_eq_some_iff.1 hk).1; omega)]
    exact k kk cur T z hT hk
  rcases h with ⟨s, h1, h2, h3, h4, h7⟩ | ⟨h1, line', h2, h3⟩
  · subst h1 h2 h3 h4
    exact ⟨lfin, kfin, A, N, V, rfl, h7.stays BD (by decide) sD⟩
  · subst h3 h2
    exact ⟨lfin, kfin, h1, A, N, V, st, _, hA, hN, hV, rfl⟩
theorem RetRn.late {b0 : Nat} {w w1 w' : World} {r : Res} {x : Ending} (hb : b0 ≤ w.heap.size) (b : Below w.heap.size w w1) (h : RetRn b0 w1 r x w') : RetRn b0 w r x w' :=
  ⟨(b.mono hb).trans h.1, (KeptA.below b).trans h.2.1, h.2.2⟩
end Go.Proofs.YtddnmocoaahlfaaGreatDoor
namespace Go.Proofs.YtddnmocoaahlfaaGreatDoor
open Go.RowKit Go.Shelf
section
variable {P : Program} {ops : Array Oper} {Q : Exit → Act → World → Prop}
structure DoneI (ops : Array Oper) (R : (Nat → Bool) → (Nat → Value) → World → Prop) (listed : Array Bool) (vals : Nat → Value) (w : World) : Prop where
  size : listed.size = ops.size
  inv : R (fun i => listed.getD i true) vals w
  closed : ∀ (j : Nat) (oj : Oper), ops[j]? = some oj → listed.getD j true = true → ∀ e ∈ oj.after, Region.binds .any e = true → listed.getD e.on true = true
structure AtI (ops : Array Oper) (R : (Nat → Bool) → (Nat → Value) → World → Prop) (a0 : Act) (i : Nat) (o : Oper) (L : Nat → Bool) (vals : Nat → Value) (a : Act) (w : World) : Prop where
  inv : R L vals w
  new : L i = false
  deps : ∀ e ∈ o.after, Region.binds .any e = true → L e.on = true
  out : ∀ t, (∀ (j : Nat) (oj : Oper), ops[j]? = some oj → oj.dst = some t → ∃ e ∈ oj.after, e.on = i ∧ Region.binds .any e = true) → a.eval (.tmp t) = a0.eval (.tmp t)
  got : ∀ j, j < ops.size → L j = true → ∀ d, dstOf ops j = some d → a.eval (.tmp d) = vals j
end
end Go.Proofs.YtddnmocoaahlfaaGreatDoor
