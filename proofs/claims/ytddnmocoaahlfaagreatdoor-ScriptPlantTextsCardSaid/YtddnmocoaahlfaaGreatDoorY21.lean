/-
  A region that draws the order of its first operations and ends in a forced row of others. No condition.
  What the operations of a drawn region say of their values, by any facts that later worlds keep. No condition.
-/
import Derived.Test.YtddnmocoaahlfaaGreatDoorY22
import Derived.StillTail
set_option linter.unusedVariables false
set_option linter.unusedSimpArgs false

namespace Go.Proofs.YtddnmocoaahlfaaGreatDoor
open Go.RowKit
/-- The first n of m have come up. -/
def uptoB (m n : Nat) : Array Bool := (Array.range m).map fun j => decide (j < n)
/-- As fineOps, but edges that do not bind may lead anywhere. -/
def fineOps2 (ops : Array Oper) (n : Nat) : Bool :=
  ops.all (fun o => o.guard.isNone) &&
  (List.range ops.size).all (fun i => (List.range ops.size).all fun j => i == j || (dstOf ops i).isNone || dstOf ops i != dstOf ops j) &&
  (List.range ops.size).all (fun i => match dstOf ops i with | none => true | some d => decide (d < n)) &&
  (List.range ops.size).all (fun i => match ops[i]? with | none => true | some o => o.after.all fun e => !Region.binds .any e || decide (e.on < i))
structure FineOps2 (ops : Array Oper) (n : Nat) : Prop where
  guard : ∀ (i : Nat) (o : Oper), ops[i]? = some o → o.guard = none
  apart : ∀ i j, i ≠ j → ∀ d, dstOf ops i = some d → dstOf ops j ≠ some d
  inside : ∀ i d, dstOf ops i = some d → d < n
  acyc : ∀ (i : Nat) (o : Oper), ops[i]? = some o → ∀ e ∈ o.after, Region.binds .any e = true → e.on < i
theorem fineOps2_spec {ops : Array Oper} {n : Nat} (h : fineOps2 ops n = true) : FineOps2 ops n := by
  unfold fineOps2 at h
  simp only [Bool.and_eq_true, List.all_eq_true, List.mem_range] at h
  obtain ⟨⟨⟨h1, h2⟩, h3⟩, h4⟩ := h
  refine ⟨fun i o ho => ?_, fun i j hij d hi hj => ?_, fun i d hi => ?_, fun i o ho e he hb => ?_⟩
  · have := Array.all_eq_true_iff_forall_mem.1 h1 o (Array.mem_of_getElem? ho)
    simpa using this
  · have := h2 i (dst_lt hi) j (dst_lt hj)
    rw [hi, hj] at this
    simp [hij] at this
  · have := h3 i (dst_lt hi)
    rw [hi] at this
    simpa using this
  · have := h4 i (Array.getElem?_eq_some_iff.1 ho).1
    rw [ho] at this
    have := Array.all_eq_true_iff_forall_mem.1 this e he
    rw [hb] at this
    simpa using this
theorem all_listed2 {ops : Array Oper} {listed : Array Bool} {n : Nat} (hf : FineOps2 ops n) (hs : listed.size = ops.size) (hr : Region.ready .any ops listed = []) : ∀ i, i < ops.size → listed.getD i true = true := by
  intro i
  induction i using Nat.strongRecOn with
  | ind i ih =>
    intro hi
    cases hl : listed.getD i true with
    | true => rfl
    | false =>
      exfalso
      obtain ⟨o, ho⟩ : ∃ o, ops[i]? = some o := ⟨_, Array.getElem?_eq_getElem hi⟩
      have hm : i ∈ Region.ready .any ops listed := mem_ready.2 ⟨hl, o, ho, fun e he hb => by
        have h1 := hf.acyc i o ho e he hb
        have h2 := ih e.on h1 (by omega)
        have h3 : e.on < listed.size := by omega
        rw [← getD_flip h3]
        exact h2⟩
      rw [hr] at hm
      cases hm
section
variable {P : Program} {ops : Array Oper} {Q : Exit → Act → World → Prop}
theorem cntR_split {f : Nat → Bool} {n : Nat} (h1 : ∀ j, j < n → f j = true) : ∀ m, n ≤ m → (∀ j, n ≤ j → j < m → f j = false) → cntR f m = m - n
  | 0, h, _ => by
    have : n = 0 := by omega
    subst this; rfl
  | m + 1, h, h2 => by
    unfold cntR
    by_cases hn : n ≤ m
    · rw [cntR_split h1 m hn (fun j a b => h2 j a (by omega)), h2 m hn (by omega)]
      simp; omega
    · have : n = m + 1 := by omega
      subst this
      rw [h1 m (by omega)]
      have : ∀ k, k ≤ m → cntR f k = 0 := by
        intro k
        induction k with
        | zero => intro _; rfl
        | succ k ih => intro hk; unfold cntR; rw [ih (by omega), h1 k (by omega)]; rfl
      rw [this m (Nat.le_refl _)]
      simp
/-- The first n but x have come up, and n. -/
def uptoX (m n x : Nat) : Array Bool := (Array.range m).map fun j => decide (j = n) || (decide (j < n) && decide (j ≠ x))
/-- What comes behind n where x is late. -/
def orderX (m n x : Nat) : List Nat := x :: (List.range (m - n - 1)).map (· + (n + 1))
def seqI (ops : Array Oper) : List Nat → Array Bool → Bool
  | [], L => (Region.ready .any ops L).isEmpty
  | k :: ks, L => decide (Region.ready .any ops L = [k]) && seqI ops ks (L.setIfInBounds k true)
/-- The operations behind the first n wait for all of these but x. -/
def tailOps2 (ops : Array Oper) (n x : Nat) : Bool :=
  decide (n < ops.size) && decide (x < n) && (List.range ops.size).all (fun i => decide (i < n) || (List.range n).all fun j => decide (j = x) || Region.waitsFor .any ops i j) && (List.range ops.size).all (fun i => decide (i ≤ n) || Region.waitsFor .any ops i n) && Region.seqB .any ops (ops.size - n) n (uptoB ops.size n) && seqI ops (orderX ops.size n x) (uptoX ops.size n x)
theorem wpAny_of_idx : ∀ (ks : List Nat) (l : List Oper) (listed : Array Bool) (a : Act) (w : World), l.length = ks.length → (∀ j : Nat, l[j]? = ks[j]?.bind fun k : Nat => ops[k]?) → seqI ops ks listed = true → wpList P ops Q l a w → wpAny P .any ops Q l.length listed a w
  | [], [], _, _, _, _, _, hB, h => ⟨by simpa [seqI] using hB, h⟩
  | [], _ :: _, _, _, _, hl, _, _, _ => by cases hl
  | _ :: _, [], _, _, _, hl, _, _, _ => by cases hl
  | k :: ks, o :: l, listed, a, w, hlen, hl, hB, h => by
    have h0 : ops[k]? = some o := by have := hl 0; simpa using this.symm
    simp only [seqI, Bool.and_eq_true, decide_eq_true_eq] at hB
    refine ⟨fun h1 => (by rw [hB.1] at h1; cases h1), fun i hi => ?_⟩
    rw [hB.1] at hi
    have hik : i = k := by simpa using hi
    subst hik
    have hw : wpOp P ops Q i (wpList P ops Q l) a w := by unfold wpOp; simp only [h0]; exact h
    exact wpOp_mono (fun a' w' h' => wpAny_of_idx ks l _ a' w' (by simpa using hlen) (fun j => by have := hl (j + 1); simpa using this) hB.2 h') hw
theorem wpAny_done_tail2 {G : Nat → Value → World → Prop} {a0 : Act} {w0 : World} {n x : Nat} (hf : FineOps2 ops a0.tmps.size) (ht : tailOps2 ops n x = true)
    (stable : ∀ i v w w', G i v w → Below w.heap.size w w' → G i v w')
    (H : ∀ i o, i < n → ops[i]? = some o → OpSays P ops Q G a0 w0 i o)
    (hQ : ∀ vals w, Below w0.heap.size w0 w → (∀ i, i < n → G i (vals i) w) → wpList P ops Q (ops.toList.drop n) (laid ops vals (fun i => decide (i < n)) a0 ops.size) w)
    (hQ2 : ∀ vals w, Below w0.heap.size w0 w → (∀ i, i < n → i ≠ x → G i (vals i) w) → ∃ (on : Oper) (l : List Oper), ops[n]? = some on ∧ l.length = ops.size - n ∧ (∀ j : Nat, l[j]? = (orderX ops.size n x)[j]?.bind fun k : Nat => ops[k]?) ∧ wpList P ops Q (on :: l) (laid ops vals (fun i => decide (i < n) && decide (i ≠ x)) a0 ops.size) w) :
    ∀ (fuel : Nat) (listed : Array Bool) (vals : Nat → Value) (w : World), Done ops G a0 w0 listed vals w → (∀ t, n ≤ t → t < ops.size → listed.getD t true = false) → cntR (fun i => listed.getD i true) ops.size = fuel →
      wpAny P .any ops Q fuel listed (laid ops vals (fun i => listed.getD i true) a0 ops.size) w := by
  unfold tailOps2 at ht
  simp only [Bool.and_eq_true, decide_eq_true_eq] at ht
  obtain ⟨⟨⟨⟨⟨hn, hx⟩, hsink⟩, hgt⟩, hseq⟩, hseq2⟩ := ht
  rw [List.all_eq_true] at hsink hgt
  have waits : ∀ i, n ≤ i → i < ops.size → ∀ j, j < n → j ≠ x → Region.waitsFor .any ops i j = true := fun i h1 h2 j hj hjx => by
    have := hsink i (List.mem_range.2 h2)
    rw [Bool.or_eq_true, decide_eq_true_eq] at this
    rcases this with h | h
    · omega
    · have := List.all_eq_true.1 h j (List.mem_range.2 hj)
      rw [Bool.or_eq_true, decide_eq_true_eq] at this
      exact this.resolve_left hjx
  have waits2 : ∀ i, n < i → i < ops.size → Region.waitsFor .any ops i n = true := fun i h1 h2 => by
    have := hgt i (List.mem_range.2 h2)
    rw [Bool.or_eq_true, decide_eq_true_eq] at this
    exact this.resolve_left (by omega)
  -- where all of the first have come up
  have fin : ∀ (fuel : Nat) (listed : Array Bool) (vals : Nat → Value) (w : World), Done ops G a0 w0 listed vals w → (∀ t, n ≤ t → t < ops.size → listed.getD t true = false) → cntR (fun i => listed.getD i true) ops.size = fuel →
      (∀ j, j < n → listed.getD j true = true) → wpAny P .any ops Q fuel listed (laid ops vals (fun i => listed.getD i true) a0 ops.size) w := by
    intro fuel listed vals w hd htl hc hall
    have hfu : fuel = ops.size - n := by
      rw [← hc]
      exact cntR_split hall ops.size (by omega) htl
    have hli : listed = uptoB ops.size n := by
      refine Array.ext (by simp [uptoB, hd.size]) fun i h1 h2 => ?_
      have h1' : i < ops.size := by rw [← hd.size]; exact h1
      have e1 : listed.getD i true = listed[i] := by simp [h1]
      have e2 : (uptoB ops.size n)[i] = decide (i < n) := by simp [uptoB]
      rw [e2, ← e1]
      by_cases hin : i < n
      · rw [hall i hin, decide_eq_true hin]
      · rw [htl i (by omega) h1', decide_eq_false hin]
    have hl : laid ops vals (fun i => listed.getD i true) a0 ops.size = laid ops vals (fun i => decide (i < n)) a0 ops.size := laid_congr _ (fun i hi => ⟨by
      by_cases hin : i < n
      · rw [hall i hin, decide_eq_true hin]
      · rw [htl i (by omega) hi, decide_eq_false hin], fun _ => rfl⟩)
    rw [hl, hfu, hli]
    have hlen : (ops.toList.drop n).length = ops.size - n := by simp
    have := wpAny_of_seq (P := P) (md := .any) (ops := ops) (Q' := Q) (ops.toList.drop n) n (uptoB ops.size n) (laid ops vals (fun i => decide (i < n)) a0 ops.size) w (fun j => by simp [List.getElem?_drop]) (by rw [hlen]; exact hseq) (hQ vals w hd.below (fun i hi => hd.said i (by omega) (hall i hi)))
    rwa [hlen] at this
  intro fuel
  induction fuel with
  | zero =>
    intro listed vals w hd htl hc
    have := cntR_zero _ hc n hn
    simp only [htl n (Nat.le_refl _) hn] at this
    cases this
  | succ fuel ih =>
    intro listed vals w hd htl hc
    by_cases hall : ∀ j, j < n → listed.getD j true = true
    · exact fin (fuel + 1) listed vals w hd htl hc hall
    refine ⟨fun hr => ?_, fun i hi => ?_⟩
    · exact absurd (fun j hj => all_listed2 hf hd.size hr j (by omega)) hall
    obtain ⟨hl, o, ho, hallr⟩ := mem_ready.1 hi
    have hl0 := hl
    have hin := (Array.getElem?_eq_some_iff.1 ho).1
    have got : ∀ j, Region.waitsFor .any ops i j = true → j < ops.size → listed.getD j true = true := fun j hw hj => by
      obtain ⟨oj, hoj, e, he, hb, hon⟩ := Region.waitsFor_spec hw
      obtain rfl := Option.some.inj (hoj.symm.trans ho)
      have := hallr e he hb
      rw [hon] at this
      rw [getD_flip (by rw [hd.size]; exact hj)]
      exact this
    by_cases hiN : i < n
    rotate_left
    · have hge : n ≤ i := by omega
      have hin2 : i = n := by
        by_cases h : i = n
        · exact h
        · exfalso
          have h1 := got n (waits2 i (by omega) hin) hn
          rw [htl n (Nat.le_refl _) hn] at h1
          cases h1
      subst hin2
      have hothers : ∀ j, j < i → j ≠ x → listed.getD j true = true := fun j hj hjx => got j (waits i (Nat.le_refl _) hin j hj hjx) (by omega)
      have hxu : listed.getD x true = false := by
        cases h : listed.getD x true with
        | false => rfl
        | true => exact absurd (fun j hj => by
            by_cases hjx : j = x
            · rw [hjx]; exact h
            · exact hothers j hj hjx) hall
      have hlis : ∀ j, j < ops.size → listed.getD j true = (decide (j < i) && decide (j ≠ x)) := fun j hj => by
        by_cases hji : j < i
        · by_cases hjx : j = x
          · rw [hjx, hxu]; simp
          · rw [hothers j hji hjx]; simp [hji, hjx]
        · rw [htl j (by omega) hj]; simp [hji]
      have hli : listed.setIfInBounds i true = uptoX ops.size i x := by
        refine Array.ext (by simp [uptoX, hd.size]) fun j h1 h2 => ?_
        have h1' : j < ops.size := by rw [← hd.size]; simpa using h1
        have e2 : (uptoX ops.size i x)[j] = (decide (j = i) || (decide (j < i) && decide (j ≠ x))) := by simp [uptoX]
        rw [e2]
        by_cases hji : j = i
        · subst hji; simp
        · rw [Array.getElem_setIfInBounds (by rw [hd.size]; exact h1'), if_neg (Ne.symm hji)]
          have e1 : listed.getD j true = listed[j]'(by rw [hd.size]; exact h1') := by simp [hd.size, h1']
          rw [← e1, hlis j h1']
          simp [hji]
      have hl2 : laid ops vals (fun i => listed.getD i true) a0 ops.size = laid ops vals (fun j => decide (j < i) && decide (j ≠ x)) a0 ops.size := laid_congr _ (fun j hj => ⟨hlis j hj, fun _ => rfl⟩)
      obtain ⟨on, l, hon, hlen, hl, hw⟩ := hQ2 vals w hd.below (fun j hj hjx => hd.said j (by omega) (hothers j hj hjx))
      have hfu : fuel = l.length := by
        have h1 := cntR_upd (f := fun j => listed.getD j true) hl0 ops.size hin
        have h2 : cntR (fun j => listed.getD j true) ops.size = fuel + 1 := hc
        have h3 : cntR (updL (fun j => listed.getD j true) x) ops.size + 1 = cntR (fun j => listed.getD j true) ops.size := cntR_upd (f := fun j => listed.getD j true) hxu ops.size (by omega)
        have h4 : cntR (updL (fun j => listed.getD j true) x) ops.size = ops.size - i := cntR_split (n := i) (fun j hj => by
          unfold updL
          by_cases hjx : j = x
          · rw [if_pos hjx]
          · rw [if_neg hjx]; exact hothers j hj hjx) ops.size (by omega) (fun j h1 h2 => by
          unfold updL
          rw [if_neg (by omega)]; exact htl j h1 h2)
        omega
      rw [hl2, hli, hfu]
      have hwo : wpOp P ops Q i (wpList P ops Q l) (laid ops vals (fun j => decide (j < i) && decide (j ≠ x)) a0 ops.size) w := by
        unfold wpOp; simp only [hon]; exact hw
      exact wpOp_mono (fun a' w' h' => wpAny_of_idx (orderX ops.size i x) l _ a' w' (by rw [hlen]; simp [orderX]; omega) hl hseq2 h') hwo
    have hdo : dstOf ops i = o.dst := by unfold dstOf; rw [ho]; rfl
    unfold wpOp
    rw [ho]
    simp only
    have hw : Region.wanted o (yielded ops (laid ops vals (fun i => listed.getD i true) a0 ops.size).tmps) = true := by
      unfold Region.wanted; rw [hf.guard i o ho]
    rw [if_pos hw]
    refine .inl ?_
    refine Oper.wp_mono ?_ (H i o hiN ho (laid ops vals (fun i => listed.getD i true) a0 ops.size) w vals (fun t ht => laid_out _ (fun j hj hLj hdj => by
      obtain ⟨oj, hoj⟩ : ∃ oj, ops[j]? = some oj := ⟨_, Array.getElem?_eq_getElem hj⟩
      have hdj' : oj.dst = some t := by unfold dstOf at hdj; rw [hoj] at hdj; exact hdj
      obtain ⟨e, he, h1, h2⟩ := ht j oj hoj hdj'
      have := hd.closed j oj hoj hLj e he h2
      rw [h1, hl] at this
      cases this)) (fun e he hb d hdd => ?_) hd.below)
    · rintro a' w' ⟨v, rfl, hg, hb⟩
      have hnew : laid ops (updV vals i v) (fun j => (listed.setIfInBounds i true).getD j true) a0 ops.size = (laid ops vals (fun i => listed.getD i true) a0 ops.size).put o.dst v := by
        rw [← hdo, ← laid_put (v := v) (L := fun i => listed.getD i true) hl (fun j hj d h1 h2 => hf.apart i j (Ne.symm hj) d h1 h2) ops.size hin]
        refine laid_congr _ (fun j hj => ⟨?_, fun _ => rfl⟩)
        unfold updL
        by_cases hji : j = i
        · subst hji; rw [if_pos rfl, getD_set_self (by rw [hd.size]; exact hin)]
        · rw [if_neg hji, getD_set_ne true (Ne.symm hji)]
      rw [← hnew]
      refine ih _ _ _ ⟨by simp [hd.size], hd.below.trans (hb.mono hd.below.size), fun j hj hlj => ?_, fun j oj hoj hlj e he hbe => ?_⟩ (fun t h1 h2 => by rw [getD_set_ne true (by omega)]; exact htl t h1 h2) ?_
      · by_cases hji : j = i
        · subst hji; simp only [updV, if_pos]; exact hg
        · rw [getD_set_ne true (Ne.symm hji)] at hlj
          simp only [updV, if_neg hji]
          exact stable j _ _ _ (hd.said j hj hlj) hb
      · have hmono : ∀ k, listed.getD k true = true → (listed.setIfInBounds i true).getD k true = true := fun k hk => by
          by_cases hki : i = k
          · subst hki; rw [hl] at hk; cases hk
          · rw [getD_set_ne true hki]; exact hk
        by_cases hji : j = i
        · subst hji
          obtain rfl := Option.some.inj (hoj.symm.trans ho)
          refine hmono _ ?_
          have h1 := hallr e he hbe
          have h2 := hf.acyc j oj ho e he hbe
          rw [getD_flip (by rw [hd.size]; omega)]
          exact h1
        · rw [getD_set_ne true (Ne.symm hji)] at hlj
          exact hmono _ (hd.closed j oj hoj hlj e he hbe)
      · have h1 := cntR_upd (f := fun i => listed.getD i true) hl ops.size hin
        rw [cntR_congr (g := fun j => (listed.setIfInBounds i true).getD j true) ops.size (fun j hj => by
          unfold updL
          by_cases hji : j = i
          · subst hji; rw [if_pos rfl, getD_set_self (by rw [hd.size]; exact hin)]
          · rw [if_neg hji, getD_set_ne true (Ne.symm hji)])] at h1
        omega
    · have h1 := hallr e he hb
      have h2 := hf.acyc i o ho e he hb
      have h3 : listed.getD e.on true = true := by
        have : e.on < listed.size := by rw [hd.size]; omega
        rw [getD_flip this]
        exact h1
      exact ⟨laidv_at h3 hdd (hf.inside _ _ hdd) (fun j hj h => hf.apart e.on j (Ne.symm hj) d hdd h) _ (by omega), hd.said e.on (by omega) h3⟩
/-- THE LAW: a region that draws the order of its first n operations, by what each of these says; the rest comes in one row. -/
theorem wp_region_mdt2 {id : Nat} {a : Act} {w : World} (n x : Nat) (hm : P.follows .mixedOrders = true) (hf : fineOps2 ops a.tmps.size = true) (ht : tailOps2 ops n x = true) (G : Nat → Value → World → Prop)
    (stable : ∀ i v w w', G i v w → Below w.heap.size w w' → G i v w')
    (H : ∀ i o, i < n → ops[i]? = some o → OpSays P ops Q G a w i o)
    (hQ : ∀ vals w', Below w.heap.size w w' → (∀ i, i < n → G i (vals i) w') → wpList P ops Q (ops.toList.drop n) (laid ops vals (fun i => decide (i < n)) a ops.size) w')
    (hQ2 : ∀ vals w', Below w.heap.size w w' → (∀ i, i < n → i ≠ x → G i (vals i) w') → ∃ (on : Oper) (l : List Oper), ops[n]? = some on ∧ l.length = ops.size - n ∧ (∀ j : Nat, l[j]? = (orderX ops.size n x)[j]?.bind fun k : Nat => ops[k]?) ∧ wpList P ops Q (on :: l) (laid ops vals (fun i => decide (i < n) && decide (i ≠ x)) a ops.size) w') : (Code.region id ops true).wp P Q a w := by
  refine wp_region_any hm ?_
  have hl : ∀ i, i < ops.size → (Array.replicate ops.size false).getD i true = false := fun i hi => by simp [hi]
  have := wpAny_done_tail2 (P := P) (Q := Q) (fineOps2_spec hf) ht stable H hQ hQ2 ops.size (Array.replicate ops.size false) (fun _ => undef) w.drew
    ⟨by simp, (Below.refl _ w).drew, (fun i hi h => by rw [hl i hi] at h; cases h), (fun j oj hoj h => by rw [hl j (Array.getElem?_eq_some_iff.1 hoj).1] at h; cases h)⟩ (fun t _ h => hl t h) (by
      have : ∀ (f : Nat → Bool) m, (∀ j, j < m → f j = false) → cntR f m = m := by
        intro f m
        induction m with
        | zero => intro _; rfl
        | succ m ih => intro h; unfold cntR; rw [ih (fun j hj => h j (by omega)), h m (by omega)]; rfl
      exact this _ _ hl)
  rw [laid_none ops.size hl] at this
  exact this
end
end Go.Proofs.YtddnmocoaahlfaaGreatDoor
namespace Go.Proofs.YtddnmocoaahlfaaGreatDoor
open Go.RowKit Go.Shelf
/-- A fact of a value that later worlds keep. -/
structure Kp where
  p : Value → World → Prop
  st : ∀ v w w', p v w → Below w.heap.size w w' → p v w'
def Kp.is (u : Value) : Kp := ⟨fun v _ => v = u, fun _ _ _ h _ => h⟩
def Kp.any : Kp := ⟨fun _ _ => True, fun _ _ _ h _ => h⟩
/-- The facts of a row of operations. -/
def GK (ks : List Kp) : Nat → Value → World → Prop := fun i => (ks.getD i Kp.any).p
theorem GK.stable (ks : List Kp) (i : Nat) (v : Value) (w w' : World) (h : GK ks i v w) (b : Below w.heap.size w w') : GK ks i v w' := (ks.getD i Kp.any).st v w w' h b
section
variable {P : Program} {ops : Array Oper} {Q : Exit → Act → World → Prop} {G : Nat → Value → World → Prop} {a0 : Act} {w0 : World}
structure ComeG (ops : Array Oper) (G : Nat → Value → World → Prop) (a0 : Act) (w0 : World) (i : Nat) (deps : List Nat) (a : Act) (w : World) : Prop where
  late : ∀ t, (∀ (j : Nat) (oj : Oper), ops[j]? = some oj → oj.dst = some t → ∃ e ∈ oj.after, e.on = i ∧ Region.binds .any e = true) → a.eval (.tmp t) = a0.eval (.tmp t)
  inn : ∀ j ∈ deps, ∀ d, dstOf ops j = some d → G j (a.eval (.tmp d)) w
  below : Below w0.heap.size w0 w
theorem ComeG.out {i : Nat} {deps : List Nat} {a : Act} {w : World} (hc : ComeG ops G a0 w0 i deps a w) (x : Tmp) (h : noDst ops x = true) : a.eval (.tmp x) = a0.eval (.tmp x) :=
  hc.late x fun j oj hoj hd => absurd (show dstOf ops j = some x by unfold dstOf; rw [hoj]; exact hd) (noDst_spec h j)
theorem ComeG.get {i : Nat} {deps : List Nat} {a : Act} {w : World} (hc : ComeG ops G a0 w0 i deps a w) {j : Nat} {d : Tmp} {op : Op} {dd : List Nat} (hj : j ∈ deps) (h : OpIs ops j op d dd) : G j (a.eval (.tmp d)) w := hc.inn j hj d h.dst
def OkG (P : Program) (ops : Array Oper) (Q : Exit → Act → World → Prop) (G : Nat → Value → World → Prop) (a0 : Act) (w0 : World) (i : Nat) : Prop := ∀ o, ops[i]? = some o → OpSays P ops Q G a0 w0 i o
theorem okG_of {i : Nat} {op : Op} {d : Tmp} {deps : List Nat} (h : OpIs ops i op d deps) (H : ∀ (o : Oper), o.op = op → o.dst = some d → ∀ (a : Act) (w : World), ComeG ops G a0 w0 i deps a w → o.wp P a w (fun a' w' => ∃ v, a' = a.put o.dst v ∧ G i v w' ∧ Below w.heap.size w w') Q) : OkG P ops Q G a0 w0 i := by
  intro o ho
  obtain ⟨o', ho', h1, h2, h3⟩ := h
  obtain rfl := Option.some.inj (ho.symm.trans ho')
  intro a w vals hout hin hb
  refine H o h1 h2 a w ⟨hout, fun j hj d hd => ?_, hb⟩
  obtain ⟨e, he, rfl, hbd⟩ := h3 j hj
  obtain ⟨g1, g2⟩ := hin e he hbd d hd
  rw [g1]; exact g2
/-- A value by its run. -/
theorem okG_val {i : Nat} {op : Op} {d : Tmp} {deps : List Nat} (h : OpIs ops i op d deps) (S : (Operand → Value) → Sem Value) (hex : ∀ (ρ : Operand → Value) (o : Oper), o.op = op → execOp ρ o = (do pure (.value (← S ρ))))
    (hrun : ∀ a w, ComeG ops G a0 w0 i deps a w → ∃ v w', (S a.eval).run P w = .ok v w' ∧ G i v w' ∧ Below w.heap.size w w') : OkG P ops Q G a0 w0 i :=
  okG_of h fun o h1 h2 a w hc => by
    obtain ⟨v, w', hr, hs, hb⟩ := hrun a w hc
    exact oper_val (S a.eval) (hex a.eval o h1) v hr ⟨v, rfl, hs, hb⟩
theorem okG_move {i : Nat} {x : Operand} {op : Op} {d : Tmp} {deps : List Nat} (h : OpIs ops i op d deps) (hop : op = .move x ∨ op = .assign x) (hs : ∀ a w, ComeG ops G a0 w0 i deps a w → G i (a.eval x) w) : OkG P ops Q G a0 w0 i :=
  okG_of h fun o h1 h2 a w hc => by
    refine oper_same (a.eval x) ?_ ⟨_, rfl, hs a w hc, Below.refl _ _⟩
    unfold execOp; rw [h1]; rcases hop with rfl | rfl <;> rfl
/-- A call that returns. -/
theorem okG_call {i : Nat} {d : Nat} {f : FuncId} {args : Array Operand} {ats : Array TypeId} {deps : List Nat} (h : OpIs ops i (.call { callee := .value (.func f), args := args, argTypes := ats }) d deps)
    (H : ∀ (o : Oper) (a : Act) (w : World), o.op = .call { callee := .value (.func f), args := args, argTypes := ats } → ComeG ops G a0 w0 i deps a w → ∃ vs, (execOp a.eval o).run P w = .ok (.enter f vs) w ∧ Calls P f vs w (fun e w' => Below w.heap.size w w' ∧ ∃ u, e = .returned u ∧ G i u w')) : OkG P ops Q G a0 w0 i :=
  okG_of h fun o h1 h2 a w hc => by
    obtain ⟨vs, hr, hcall⟩ := H o a w h1 hc
    unfold Oper.wp
    rw [hr]
    simp only [Oper.upon]
    refine Calls.mono hcall ?_
    rintro e w' ⟨hb, u, rfl, hs⟩
    exact ⟨u, rfl, hs, hb⟩
end
theorem sub_run (m n : Int) (x y : Operand) (w : World) (h : I64 (m - n)) : (do eqGuard .sub 3 x y (.int .i64 m) (.int .i64 n); binOp .sub 3 (.int .i64 m) (.int .i64 n) : Sem Value).run Tryz.prog w = .ok (.int .i64 (m - n)) w := by
  have h' : IntKind.i64.wrap (m - n) = m - n := IntWalk.i64_in _ h
  simp [eqGuard, binOp, go_sem, h']
theorem tup0 (a b : Value) (w : World) : (Instr.extract (.tuple #[a, b]) 0).run Tryz.prog w = .ok a w := by simp [Instr.extract, go_sem]
theorem tup1 (a b : Value) (w : World) : (Instr.extract (.tuple #[a, b]) 1).run Tryz.prog w = .ok b w := by simp [Instr.extract, go_sem]
theorem idx27 {L o n c k : Nat} (h : k < n) (w : World) : (Instr.indexAt 27 (.slice (some ⟨L, o, none⟩) n c) (.int .i64 (k : Int))).run Tryz.prog w = .ok (.pointer (some ⟨L, o + k, none⟩)) w := by
  have u27 := Tryz.underlying27
  have z9 := Tryz.sizeOf9
  have d1 : ¬ ((k : Int) < 0) := by omega
  have d2 : (k : Int) < (n : Int) := by omega
  simp [Instr.indexAt, go_sem, u27, z9, d1, d2, Addr.add, h]
end Go.Proofs.YtddnmocoaahlfaaGreatDoor
