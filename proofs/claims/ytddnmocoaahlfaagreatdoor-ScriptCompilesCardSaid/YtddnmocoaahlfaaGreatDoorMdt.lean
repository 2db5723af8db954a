/-
  A region that draws the order of its first operations and ends in a forced row of others. No condition.
-/
import Derived.Test.YtddnmocoaahlfaaGreatDoorY26
import Derived.StillTail
set_option linter.unusedVariables false
set_option linter.unusedSimpArgs false
namespace Go.Proofs.YtddnmocoaahlfaaGreatDoor
open Go.RowKit
def uptoB (m n : Nat) : Array Bool := (Array.range m).map fun j => decide (j < n)
def fineOps2 (ops : Array Oper) (n : Nat) : Bool :=
  ops.all (fun o => o.guard.isNone) &&
  (List.range ops.size).all (fun i => (List.range ops.size).all fun j => i == j || (dstOf ops i).isNone || dstOf ops i != dstOf ops j) &&
  (List.range ops.size).all (fun i => match dstOf ops i with | none => true | some d => decide (d < n)) &&
  (List.range ops.size).all (fun i => match ops[i]? with | none => true | some o => o.after.all fun e => !Region.binds .any e || decide (e.on < i))
structure FineOps2 (ops : Array Oper) (n : Nat) : Prop where
  guard : ∀ (i : Nat) (o : Oper), ops[i]? = some o → o.guard = none
  apart : ∀ i j, i ≠ j → ∀ d, dstOf ops i = some d → dstOf ops j ≠ some d
  inside : ∀ i d, dstOf ops i = some d → d < n
  acyc : ∀ (i : Nat) (o : Oper), ops[i]? = some o → ∀ e ∈ o.after, Region.binds .any e = true → e.on < i
theorem fineOps2_spec {ops : Array Oper} {n : Nat} (h : fineOps2 ops n = true) : FineOps2 ops n := by
  unfold fineOps2 at h
  simp only [Bool.and_eq_true, List.all_eq_true, List.mem_range] at h
  obtain ⟨⟨⟨h1, h2⟩, h3⟩, h4⟩ := h
  refine ⟨fun i o ho => ?_, fun i j hij d hi hj => ?_, fun i d hi => ?_, fun i o ho e he hb => ?_⟩
  · have := Array.all_eq_true_iff_forall_mem.1 h1 o (Array.mem_of_getElem? ho)
    simpa using this
  · have := h2 i (dst_lt hi) j (dst_lt hj)
    rw [hi, hj] at this
    simp [hij] at this
  · have := h3 i (dst_lt hi)
    rw [hi] at this
    simpa using this
  · have := h4 i (Array.getElem?_eq_some_iff.1 ho).1
    rw [ho] at this
    have := Array.all_eq_true_iff_forall_mem.1 this e he
    rw [hb] at this
    simpa using this
theorem all_listed2 {ops : Array Oper} {listed : Array Bool} {n : Nat} (hf : FineOps2 ops n) (hs : listed.size = ops.size) (hr : Region.ready .any ops listed = []) : ∀ i, i < ops.size → listed.getD i true = true := by
  intro i
  induction i using Nat.strongRecOn with
  | ind i ih =>
    intro hi
    cases hl : listed.getD i true with
    | true => rfl
    | false =>
      exfalso
      obtain ⟨o, ho⟩ : ∃ o, ops[i]? = some o := ⟨_, Array.getElem?_eq_getElem hi⟩
      have hm : i ∈ Region.ready .any ops listed := mem_ready.2 ⟨hl, o, ho, fun e he hb => by
        have h1 := hf.acyc i o ho e he hb
        have h2 := ih e.on h1 (by omega)
        have h3 : e.on < listed.size := by omega
        rw [← getD_flip h3]
        exact h2⟩
      rw [hr] at hm
      cases hm
section
variable {P : Program} {ops : Array Oper} {Q : Exit → Act → World → Prop}
theorem cntR_split {f : Nat → Bool} {n : Nat} (h1 : ∀ j, j < n → f j = true) : ∀ m, n ≤ m → (∀ j, n ≤ j → j < m → f j = false) → cntR f m = m - n
  | 0, h, _ => by
    have : n = 0 := by omega
    subst this; rfl
  | m + 1, h, h2 => by
    unfold cntR
    by_cases hn : n ≤ m
    · rw [cntR_split h1 m hn (fun j a b => h2 j a (by omega)), h2 m hn (by omega)]
      simp; omega
    · have : n = m + 1 := by omega
      subst this
      rw [h1 m (by omega)]
      have : ∀ k, k ≤ m → cntR f k = 0 := by
        intro k
        induction k with
        | zero => intro _; rfl
        | succ k ih => intro hk; unfold cntR; rw [ih (by omega), h1 k (by omega)]; rfl
      rw [this m (Nat.le_refl _)]
      simp
def uptoX (m n x : Nat) : Array Bool := (Array.range m).map fun j => decide (j = n) || (decide (j < n) && decide (j ≠ x))
def orderX (m n x : Nat) : List Nat := x :: (List.range (m - n - 1)).map (· + (n + 1))
def seqI (ops : Array Oper) : List Nat → Array Bool → Bool
  | [], L => (Region.ready .any ops L).isEmpty
  | k :: ks, L => decide (Region.ready .any ops L = [k]) && seqI ops ks (L.setIfInBounds k true)
def tailOps2 (ops : Array Oper) (n x : Nat) : Bool :=
  decide (n < ops.size) && decide (x < n) && (List.range ops.size).all (fun i => decide (i < n) || (List.range n).all fun j => decide (j = x) || Region.waitsFor .any ops i j) && (List.range ops.size).all (fun i => decide (i ≤ n) || Region.waitsFor .any ops i n) && Region.seqB .any ops (ops.size - n) n (uptoB ops.size n) && seqI ops (orderX ops.size n x) (uptoX ops.size n x)
theorem wpAny_of_idx : ∀ (ks : List Nat) (l : List Oper) (listed : Array Bool) (a : Act) (w : World), l.length = ks.length → (∀ j : Nat, l[j]? = ks[j]?.bind fun k : Nat => ops[k]?) → seqI ops ks listed = true → wpList P ops Q l a w → wpAny P .any ops Q l.length listed a w
  | [], [], _, _, _, _, _, hB, h => ⟨by simpa [seqI] using hB, h⟩
  | [], _ :: _, _, _, _, hl, _, _, _ => by cases hl
  | _ :: _, [], _, _, _, hl, _, _, _ => by cases hl
  | k :: ks, o :: l, listed, a, w, hlen, hl, hB, h => by
    have h0 : ops[k]? = some o := by have := hl 0; simpa using this.symm
    simp only [seqI, Bool.and_eq_true, decide_eq_true_eq] at hB
    refine ⟨fun h1 => (by rw [hB.1] at h1; cases h1), fun i hi => ?_⟩
    rw [hB.1] at hi
    have hik : i = k := by simpa using hi
    subst hik
    have hw : wpOp P ops Q i (wpList P ops Q l) a w := by unfold wpOp; simp only [h0]; exact h
    exact wpOp_mono (fun a' w' h' => wpAny_of_idx ks l _ a' w' (by simpa using hlen) (fun j => by have := hl (j + 1); simpa using this) hB.2 h') hw
theorem wpAny_done_tail2 {G : Nat → Value → World → Prop} {a0 : Act} {w0 : World} {n x : Nat} (hf : FineOps2 ops a0.tmps.size) (ht : tailOps2 ops n x = true)
    (stable : ∀ i v w w', G i v w → Below w.heap.size w w' → G i v w')
    (H : ∀ i o, i < n → ops[i]? = some o → OpSays P ops Q G a0 w0 i o)
    (hQ : ∀ vals w, Below w0.heap.size w0 w → (∀ i, i < n → G i (vals i) w) → wpList P ops Q (ops.toList.drop n) (laid ops vals (fun i => decide (i < n)) a0 ops.size) w)
    (hQ2 : ∀ vals w, Below w0.heap.size w0 w → (∀ i, i < n → i ≠ x → G i (vals i) w) → ∃ (on : Oper) (l : List Oper), ops[n]? = some on ∧ l.length = ops.size - n ∧ (∀ j : Nat, l[j]? = (orderX ops.size n x)[j]?.bind fun k : Nat => ops[k]?) ∧ wpList P ops Q (on :: l) (laid ops vals (fun i => decide (i < n) && decide (i ≠ x)) a0 ops.size) w) :
    ∀ (fuel : Nat) (listed : Array Bool) (vals : Nat → Value) (w : World), Done ops G a0 w0 listed vals w → (∀ t, n ≤ t → t < ops.size → listed.getD t true = false) → cntR (fun i => listed.getD i true) ops.size = fuel →
      wpAny P .any ops Q fuel listed (laid ops vals (fun i => listed.getD i true) a0 ops.size) w := by
  unfold tailOps2 at ht
  simp only [Bool.and_eq_true, decide_eq_true_eq] at ht
  obtain ⟨⟨⟨⟨⟨hn, hx⟩, hsink⟩, hgt⟩, hseq⟩, hseq2⟩ := ht
  rw [List.all_eq_true] at hsink hgt
  have waits : ∀ i, n ≤ i → i < ops.size → ∀ j, j < n → j ≠ x → Region.waitsFor .any ops i j = true := fun i h1 h2 j hj hjx => by
    have := hsink i (List.mem_range.2 h2)
    rw [Bool.or_eq_true, decide_eq_true_eq] at this
    rcases this with h | h
    · omega
    · have := List.all_eq_true.1 h j (List.mem_range.2 hj)
      rw [Bool.or_eq_true, decide_eq_true_eq] at this
      exact this.resolve_left hjx
  have waits2 : ∀ i, n < i → i < ops.size → Region.waitsFor .any ops i n = true := fun i h1 h2 => by
    have := hgt i (List.mem_range.2 h2)
    rw [Bool.or_eq_true, decide_eq_true_eq] at this
    exact this.resolve_left (by omega)
  -- where all of the first have come up
  have fin : ∀ (fuel : Nat) (listed : Array Bool) (vals : Nat → Value) (w : World), Done ops G a0 w0 listed vals w → (∀ t, n ≤ t → t < ops.size → listed.getD t true = false) → cntR (fun i => listed.getD i true) ops.size = fuel →
      (∀ j, j < n → listed.getD j true = true) → wpAny P .any ops Q fuel listed (laid ops vals (fun i => listed.getD i true) a0 ops.size) w := by
    intro fuel listed vals w hd htl hc hall
    have hfu : fuel = ops.size - n := by
      rw [← hc]
      exact cntR_split hall ops.size (by omega) htl
    have hli : listed = uptoB ops.size n := by
      refine Array.ext (by simp [uptoB, hd.size]) fun i h1 h2 => ?_
      have h1' : i < ops.size := by rw [← hd.size]; exact h1
      have e1 : listed.getD i true = listed[i] := by simp [h1]
      have e2 : (uptoB ops.size n)[i] = decide (i < n) := by simp [uptoB]
      rw [e2, ← e1]
      by_cases hin : i < n
      · rw [hall i hin, decide_eq_true hin]
      · rw [htl i (by omega) h1', decide_eq_false hin]
    have hl : laid ops vals (fun i => listed.getD i true) a0 ops.size = laid ops vals (fun i => decide (i < n)) a0 ops.size := laid_congr _ (fun i hi => ⟨by
      by_cases hin : i < n
      · rw [hall i hin, decide_eq_true hin]
      · rw [htl i (by omega) hi, decide_eq_false hin], fun _ => rfl⟩)
    rw [hl, hfu, hli]
    have hlen : (ops.toList.drop n).length = ops.size - n := by simp
    have := wpAny_of_seq (P := P) (md := .any) (ops := ops) (Q' := Q) (ops.toList.drop n) n (uptoB ops.size n) (laid ops vals (fun i => decide (i < n)) a0 ops.size) w (fun j => by simp [List.getElem?_drop]) (by rw [hlen]; exact hseq) (hQ vals w hd.below (fun i hi => hd.said i (by omega) (hall i hi)))
    rwa [hlen] at this
  intro fuel
  induction fuel with
  | zero =>
    intro listed vals w hd htl hc
    have := cntR_zero _ hc n hn
    simp only [htl n (Nat.le_refl _) hn] at this
    cases this
  | succ fuel ih =>
    intro listed vals w hd htl hc
    by_cases hall : ∀ j, j < n → listed.getD j true = true
    · exact fin (fuel + 1) listed vals w hd htl hc hall
    refine ⟨fun hr => ?_, fun i hi => ?_⟩
    · exact absurd (fun j hj => all_listed2 hf hd.size hr j (by omega)) hall
    obtain ⟨hl, o, ho, hallr⟩ := mem_ready.1 hi
    have hl0 := hl
    have hin := (Array.getElem?_eq_some_iff.1 ho).1
    have got : ∀ j, Region.waitsFor .any ops i j = true → j < ops.size → listed.getD j true = true := fun j hw hj => by
      obtain ⟨oj, hoj, e, he, hb, hon⟩ := Region.waitsFor_spec hw
      obtain rfl := Option.some.inj (hoj.symm.trans ho)
      have := hallr e he hb
      rw [hon] at this
      rw [getD_flip (by rw [hd.size]; exact hj)]
      exact this
    by_cases hiN : i < n
    rotate_left
    · have hge : n ≤ i := by omega
      have hin2 : i = n := by
        by_cases h : i = n
        · exact h
        · exfalso
          have h1 := got n (waits2 i (by omega) hin) hn
          rw [htl n (Nat.le_refl _) hn] at h1
          cases h1
      subst hin2
      have hothers : ∀ j, j < i → j ≠ x → listed.getD j true = true := fun j hj hjx => got j (waits i (Nat.le_refl _) hin j hj hjx) (by omega)
      have hxu : listed.getD x true = false := by
        cases h : listed.getD x true with
        | false => rfl
        | true => exact absurd (fun j hj => by
            by_cases hjx : j = x
            · rw [hjx]; exact h
            · exact hothers j hj hjx) hall
      have hlis : ∀ j, j < ops.size → listed.getD j true = (decide (j < i) && decide (j ≠ x)) := fun j hj => by
        by_cases hji : j < i
        · by_cases hjx : j = x
          · rw [hjx, hxu]; simp
          · rw [hothers j hji hjx]; simp [hji, hjx]
        · rw [htl j (by omega) hj]; simp [hji]
      have hli : listed.setIfInBounds i true = uptoX ops.size i x := by
        refine Array.ext (by simp [uptoX, hd.size]) fun j h1 h2 => ?_
        have h1' : j < ops.size := by rw [← hd.size]; simpa using h1
        have e2 : (uptoX ops.size i x)[j] = (decide (j = i) || (decide (j < i) && decide (j ≠ x))) := by simp [uptoX]
        rw [e2]
        by_cases hji : j = i
        · subst hji; simp
        · rw [Array.getElem_setIfInBounds (by rw [hd.size]; exact h1'), if_neg (Ne.symm hji)]
          have e1 : listed.getD j true = listed[j]'(by rw [hd.size]; exact h1') := by simp [hd.size, h1']
          rw [← e1, hlis j h1']
          simp [hji]
      have hl2 : laid ops vals (fun i => listed.getD i true) a0 ops.size = laid ops vals (fun j => decide (j < i) && decide (j ≠ x)) a0 ops.size := laid_congr _ (fun j hj => ⟨hlis j hj, fun _ => rfl⟩)
      obtain ⟨on, l, hon, hlen, hl, hw⟩ := hQ2 vals w hd.below (fun j hj hjx => hd.said j (by omega) (hothers j hj hjx))
      have hfu : fuel = l.length := by
        have h1 := cntR_upd (f := fun j => listed.getD j true) hl0 ops.size hin
        have h2 : cntR (fun j => listed.getD j true) ops.size = fuel + 1 := hc
        have h3 : cntR (updL (fun j => listed.getD j true) x) ops.size + 1 = cntR (fun j => listed.getD j true) ops.size := cntR_upd (f := fun j => listed.getD j true) hxu ops.size (by omega)
        have h4 : cntR (updL (fun j => listed.getD j true) x) ops.size = ops.size - i := cntR_split (n := i) (fun j hj => by
          unfold updL
          by_cases hjx : j = x
          · rw [if_pos hjx]
          · rw [if_neg hjx]; exact hothers j hj hjx) ops.size (by omega) (fun j h1 h2 => by
          unfold updL
          rw [if_neg (by omega)]; exact htl j h1 h2)
        omega
      rw [hl2, hli, hfu]
      have hwo : wpOp P ops Q i (wpList P ops Q l) (laid ops vals (fun j => decide (j < i) && decide (j ≠ x)) a0 ops.size) w := by
        unfold wpOp; simp only [hon]; exact hw
      exact wpOp_mono (fun a' w' h' => wpAny_of_idx (orderX ops.size i x) l _ a' w' (by rw [hlen]; simp [orderX]; omega) hl hseq2 h') hwo
    have hdo : dstOf ops i = o.dst := by unfold dstOf; rw [ho]; rfl
    unfold wpOp
    rw [ho]
    simp only
    have hw : Region.wanted o (yielded ops (laid ops vals (fun i => listed.getD i true) a0 ops.size).tmps) = true := by
      unfold Region.wanted; rw [hf.guard i o ho]
    rw [if_pos hw]
    refine .inl ?_
    refine Oper.wp_mono ?_ (H i o hiN ho (laid ops vals (fun i => listed.getD i true) a0 ops.size) w vals (fun t ht => laid_out _ (fun j hj hLj hdj => by
      obtain ⟨oj, hoj⟩ : ∃ oj, ops[j]? = some oj := ⟨_, Array.getElem?_eq_getElem hj⟩
      have hdj' : oj.dst = some t := by unfold dstOf at hdj; rw [hoj] at hdj; exact hdj
      obtain ⟨e, he, h1, h2⟩ := ht j oj hoj hdj'
      have := hd.closed j oj hoj hLj e he h2
      rw [h1, hl] at this
      cases this)) (fun e he hb d hdd => ?_) hd.below)
    · rintro a' w' ⟨v, rfl, hg, hb⟩
      have hnew : laid ops (updV vals i v) (fun j => (listed.setIfInBounds i true).getD j true) a0 ops.size = (laid ops vals (fun i => listed.getD i true) a0 ops.size).put o.dst v := by
        rw [← hdo, ← laid_put (v := v) (L := fun i => listed.getD i true) hl (fun j hj d h1 h2 => hf.apart i j (Ne.symm hj) d h1 h2) ops.size hin]
        refine laid_congr _ (fun j hj => ⟨?_, fun _ => rfl⟩)
        unfold updL
        by_cases hji : j = i
        · subst hji; rw [if_pos rfl, getD_set_self (by rw [hd.size]; exact hin)]
        · rw [if_neg hji, getD_set_ne true (Ne.symm hji)]
      rw [← hnew]
      refine ih _ _ _ ⟨by simp [hd.size], hd.below.trans (hb.mono hd.below.size), fun j hj hlj => ?_, fun j oj hoj hlj e he hbe => ?_⟩ (fun t h1 h2 => by rw [getD_set_ne true (by omega)]; exact htl t h1 h2) ?_
      · by_cases hji : j = i
        · subst hji; simp only [updV, if_pos]; exact hg
        · rw [getD_set_ne true (Ne.symm hji)] at hlj
          simp only [updV, if_neg hji]
          exact stable j _ _ _ (hd.said j hj hlj) hb
      · have hmono : ∀ k, listed.getD k true = true → (listed.setIfInBounds i true).getD k true = true := fun k hk => by
          by_cases hki : i = k
          · subst hki; rw [hl] at hk; cases hk
          · rw [getD_set_ne true hki]; exact hk
        by_cases hji : j = i
        · subst hji
          obtain rfl := Option.some.inj (hoj.symm.trans ho)
          refine hmono _ ?_
          have h1 := hallr e he hbe
          have h2 := hf.acyc j oj ho e he hbe
          rw [getD_flip (by rw [hd.size]; omega)]
          exact h1
        · rw [getD_set_ne true (Ne.symm hji)] at hlj
          exact hmono _ (hd.closed j oj hoj hlj e he hbe)
      · have h1 := cntR_upd (f := fun i => listed.getD i true) hl ops.size hin
        rw [cntR_congr (g := fun j => (listed.setIfInBounds i true).getD j true) ops.size (fun j hj => by
          unfold updL
          by_cases hji : j = i
          · subst hji; rw [if_pos rfl, getD_set_self (by rw [hd.size]; exact hin)]
          · rw [if_neg hji, getD_set_ne true (Ne.symm hji)])] at h1
        omega
    · have h1 := hallr e he hb
      have h2 := hf.acyc i o ho e he hb
      have h3 : listed.getD e.on true = true := by
        have : e.on < listed.size := by rw [hd.size]; omega
        rw [getD_flip this]
        exact h1
      exact ⟨laidv_at h3 hdd (hf.inside _ _ hdd) (fun j hj h => hf.apart e.on j (Ne.symm hj) d hdd h) _ (by omega), hd.said e.on (by omega) h3⟩
theorem wp_region_mdt2 {id : Nat} {a : Act} {w : World} (n x : Nat) (hm : P.follows .mixedOrders = true) (hf : fineOps2 ops a.tmps.size = true) (ht : tailOps2 ops n x = true) (G : Nat → Value → World → Prop)
    (stable : ∀ i v w w', G i v w → Below w.heap.size w w' → G i v w')
    (H : ∀ i o, i < n → ops[i]? = some o → OpSays P ops Q G a w i o)
    (hQ : ∀ vals w', Below w.heap.size w w' → (∀ i, i < n → G i (vals i) w') → wpList P ops Q (ops.toList.drop n) (laid ops vals (fun i => decide (i < n)) a ops.size) w')
    (hQ2 : ∀ vals w', Below w.heap.size w w' → (∀ i, i < n → i ≠ x → G i (vals i) w') → ∃ (on : Oper) (l : List Oper), ops[n]? = some on ∧ l.length = ops.size - n ∧ (∀ j : Nat, l[j]? = (orderX ops.size n x)[j]?.bind fun k : Nat => ops[k]?) ∧ wpList P ops Q (on :: l) (laid ops vals (fun i => decide (i < n) && decide (i ≠ x)) a ops.size) w') : (Code.region id ops true).wp P Q a w := by
  refine wp_region_any hm ?_
  have hl : ∀ i, i < ops.size → (Array.replicate ops.size false).getD i true = false := fun i hi => by simp [hi]
  have := wpAny_done_tail2 (P := P) (Q := Q) (fineOps2_spec hf) ht stable H hQ hQ2 ops.size (Array.replicate ops.size false) (fun _ => undef) w.drew
    ⟨by simp, (Below.refl _ w).drew, (fun i hi h => by rw [hl i hi] at h; cases h), (fun j oj hoj h => by rw [hl j (Array.getElem?_eq_some_iff.1 hoj).1] at h; cases h)⟩ (fun t _ h => hl t h) (by
      have : ∀ (f : Nat → Bool) m, (∀ j, j < m → f j = false) → cntR f m = m := by
        intro f m
        induction m with
        | zero => intro _; rfl
        | succ m ih => intro h; unfold cntR; rw [ih (fun j hj => h j (by omega)), h m (by omega)]; rfl
      exact this _ _ hl)
  rw [laid_none ops.size hl] at this
  exact this
end
end Go.Proofs.YtddnmocoaahlfaaGreatDoor
