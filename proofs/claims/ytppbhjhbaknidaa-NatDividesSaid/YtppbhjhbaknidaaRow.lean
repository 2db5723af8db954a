/-
  A row of numbers that grows by append: what it holds, and the law of one append. Condition: fewer than 2^40 numbers.
-/
import Derived.Test.YtppbhjhbaknidaaNat
namespace Go.Proofs.Ytppbhjhbaknidaa
open Go.RowKit

def intsOf (K : IntKind) (xs : List Nat) : List Value := xs.map fun (x : Nat) => Value.int K (x : Int)

/-- The slice v is the call's own (a block from B on, or nil) and holds just these numbers. -/
def Row (w : World) (B : Nat) (K : IntKind) (E : TypeId) (v : Value) (xs : List Nat) : Prop := w.ownsRow B E 1 v xs.length (intsOf K xs)

theorem Row.nil (w : World) (B : Nat) (K : IntKind) (E : TypeId) : Row w B K E (.slice none 0 0) [] := World.ownsRow_nil w B E 1

theorem Row.lt {w : World} {B : Nat} {K : IntKind} {E : TypeId} {v : Value} {xs : List Nat} (h : Row w B K E v xs) : ∀ k, v.ownBlock = some k → B ≤ k ∧ k < w.heap.size := World.ownsRow.lt h

theorem Row.keep {w w' : World} {B B' : Nat} {K : IntKind} {E : TypeId} {v : Value} {xs : List Nat} (h : Row w B K E v xs) (hb : Below B' w w') (hB : w.heap.size ≤ B') : Row w' B K E v xs := by
  obtain ⟨h1, h2⟩ := h
  refine ⟨h1, h2.imp id ?_⟩
  rintro ⟨g, cap, cur, hv, h3, h4, h5⟩
  refine ⟨g, cap, cur, hv, h3, ?_, h5⟩
  rw [hb.block g (Nat.lt_of_lt_of_le (Array.getElem?_eq_some_iff.1 h4).1 hB)]; exact h4

theorem Row.slice {w : World} {B : Nat} {K : IntKind} {E : TypeId} {v : Value} {xs : List Nat} (h : Row w B K E v xs) : ∃ ao cap, v = .slice ao xs.length cap := by
  rcases h.2 with ⟨h1, h2⟩ | ⟨g, cap, cur, hv, _⟩
  · exact ⟨none, 0, by rw [h1, h2]⟩
  · exact ⟨_, cap, hv⟩

theorem Row.sl {w : World} {B : Nat} {K : IntKind} {E : TypeId} {v : Value} {xs : List Nat} (h : Row w B K E v xs) (hm : xs.length ≤ 1099511627776) (hw : ∀ x ∈ xs, (Lit.int K x).wf = true) : Sl w K v xs := by
  rcases h.2 with ⟨h1, h2⟩ | ⟨g, cap, cur, hv, _, hg, hc, hcm, hs, ht⟩
  · have : xs = [] := List.length_eq_zero_iff.1 h2
    subst this
    subst h1
    exact ⟨none, 0, 0, 0, 0, rfl, ⟨rfl, Nat.le_refl _, by omega, .inr ⟨rfl, rfl, rfl⟩, fun i hi => by omega, hw⟩⟩
  · refine ⟨_, _, cap, g, 0, hv, ⟨rfl, hc, ⟨hm, by unfold maxLen at *; omega⟩, .inl rfl, fun i hi => ?_, hw⟩⟩
    have h1 : (intsOf K xs)[i]? = cur[i]? := by
      rw [← ht, List.getElem?_take_of_lt (by omega)]; simp
    have h2 : (intsOf K xs)[i]? = some (.int K (nth xs i)) := by
      simp [intsOf, nth_lt hi, hi]
    rw [Nat.zero_add]
    simp only [World.cell?, hg]
    rw [← h1, h2]
    rfl

/-- 'append(xs, d)' to a row of the call's own. -/
theorem wpList_append_row {P : Program} {ops : Array Oper} {rest : List Oper} {o : Oper} {a : Act} {Q : Exit → Act → World → Prop} (w0 : World) (hgd : o.guard = none) (s x : Operand) (t : TypeId)
    (ho : o.op = .call { callee := .builtin .append, args := #[s, x], argTypes := #[t, t] })
    (B : Nat) (E : TypeId) (K : IntKind) (bytes : Nat) (h1 : P.underlying t = some (.slice E)) (h2 : (P.info? E).map (fun i => (i.zero, i.size, i.bytes)) = some (some (.int K 0), 1, bytes)) (hb : bytes ≤ 8)
    (v : Value) (xs : List Nat) (z : Int) (d : Nat) (hs : a.eval s = v) (hrow : Row w0 B K E v xs) (hx : a.eval x = .slice (some ⟨w0.heap.size, 0, none⟩) 1 1) (hz : z = (d : Int))
    (hn : xs.length < 1099511627776) (hB : B ≤ w0.heap.size)
    (h : ∀ v' w', Row w' B K E v' (xs ++ [d]) → Below B w0 w' → (∀ k, k < w0.heap.size → v.ownBlock ≠ some k → w'.heap[k]? = w0.heap[k]?) → wpList P ops Q rest (a.put o.dst v') w') :
    wpList P ops Q (o :: rest) a (w0.alloc (.cells #[.int K z] E)) := by
  subst hz
  obtain ⟨i, hi, hz0, hz1, hz2⟩ := info_parts h2
  have hb' : (xs.length + 1) * bytes ≤ (xs.length + 1) * 8 := Nat.mul_le_mul_left _ hb
  refine wpList_append_own _ hgd s x t ho B E i (.int K 0) 1 bytes h1 hi hz0 hz1 hz2 rfl (by decide) v xs.length (intsOf K xs) hs (World.ownsRow.alloc hrow _) ⟨w0.heap.size, 0, none⟩ 1 1 [.int K d] hx rfl ?_ ?_ ?_ (by omega) (by simp; omega) ?_
  · intro j u hj
    match j, hj with
    | 0, hj => simp at hj; subst hj; simp [Addr.add]
  · intro u hu; simp at hu; subst hu; rfl
  · unfold maxLen; omega
  · intro v' w' hown hgrow _
    refine h v' w' ?_ ?_ ?_
    · simpa [Row, intsOf] using hown
    · exact ((Below.refl _ _).alloc hB _).grown hgrow (by simp; omega) (fun k hk => (hrow.lt k hk).1)
    · intro k hk hne
      rw [hgrow.block k (by simp; omega) (fun e => hne e.symm), heap_alloc_old w0 _ hk]

end Go.Proofs.Ytppbhjhbaknidaa
