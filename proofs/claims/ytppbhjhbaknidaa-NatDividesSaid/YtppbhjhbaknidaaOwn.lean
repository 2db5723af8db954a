/-
  A block of numbers that a call has made: what it holds, read, written, and handed on as a slice. No condition.
-/
import Derived.Test.YtppbhjhbaknidaaNorm
import Derived.Test.YtppbhjhbaknidaaDig
namespace Go.Proofs.Ytppbhjhbaknidaa
open Go.RowKit

def cellsOf (K : IntKind) (xs : List Nat) : Array Value := (xs.map fun (x : Nat) => Value.int K (x : Int)).toArray

/-- Block g holds just these numbers. -/
def Own (w : World) (K : IntKind) (E : TypeId) (g : Nat) (xs : List Nat) : Prop := w.heap[g]? = some (.cells (cellsOf K xs) E (0, 0))

theorem Own.lt {w : World} {K : IntKind} {E : TypeId} {g : Nat} {xs : List Nat} (h : Own w K E g xs) : g < w.heap.size := (Array.getElem?_eq_some_iff.1 h).1

theorem cellsOf_get (K : IntKind) (xs : List Nat) (i : Nat) (h : i < xs.length) : (cellsOf K xs)[i]? = some (.int K (nth xs i)) := by
  simp [cellsOf, nth_lt h, h]

theorem Own.cell {w : World} {K : IntKind} {E : TypeId} {g : Nat} {xs : List Nat} (h : Own w K E g xs) {i : Nat} (hi : i < xs.length) :
    w.cell? ⟨g, i, none⟩ = some (.int K (nth xs i)) := by
  unfold Own at h
  simp [World.cell?, h, cellsOf_get K xs i hi]

theorem Own.frozen {w : World} {K : IntKind} {E : TypeId} {g : Nat} {xs : List Nat} (h : Own w K E g xs) (i : Nat) : w.frozen? ⟨g, i, none⟩ = false := by
  unfold Own at h
  simp [World.frozen?, h]

theorem Own.set {w : World} {K : IntKind} {E : TypeId} {g : Nat} {xs : List Nat} (h : Own w K E g xs) (i : Nat) (d : Nat) :
    Own (w.setCell ⟨g, i, none⟩ (.int K d)) K E g (xs.set i d) := by
  unfold Own at h ⊢
  simp only [World.setCell, Array.getElem?_modify, h, Option.map_some, if_true]
  simp [cellsOf]

theorem Own.below {w w' : World} {K : IntKind} {E : TypeId} {g B : Nat} {xs : List Nat} (h : Own w K E g xs) (hb : Below B w w') (hg : g < B) : Own w' K E g xs := by
  unfold Own at h ⊢
  rw [hb.block g hg]; exact h

theorem Own.slAt {w : World} {K : IntKind} {E : TypeId} {g : Nat} {xs : List Nat} (h : Own w K E g xs) {n : Nat} (hn : xs.length = n) (hm : n ≤ 1099511627776) (hw : ∀ x ∈ xs, (Lit.int K x).wf = true) :
    SlAt w K (some ⟨g, 0, none⟩) n n g 0 xs :=
  ⟨hn, Nat.le_refl _, ⟨hm, by omega⟩, .inl rfl, fun i hi => by rw [Nat.zero_add]; exact h.cell (by omega), hw⟩

theorem Own.sl {w : World} {K : IntKind} {E : TypeId} {g : Nat} {xs : List Nat} (h : Own w K E g xs) {n : Nat} (hn : xs.length = n) (hm : n ≤ 1099511627776) (hw : ∀ x ∈ xs, (Lit.int K x).wf = true) :
    Sl w K (.slice (some ⟨g, 0, none⟩) n n) xs := (h.slAt hn hm hw).sl

/-- 'make([]T, n)', T a kind of numbers: n zeros in a new block. -/
theorem wpList_make_nums {P : Program} (w : World) {ops : Array Oper} {rest : List Oper} {o : Oper} {a : Act} {Q : Exit → Act → World → Prop}
    (hg : o.guard = none) (l c : Operand) (t : TypeId) (hop : o.op = Op.makeSlice t l c)
    (e : TypeId) (K : IntKind) (bytes : Nat) (h1 : P.underlying t = some (.slice e)) (h2 : (P.info? e).map (fun i => (i.zero, i.size, i.bytes)) = some (some (.int K 0), 1, bytes))
    (kl kc : IntKind) (L C : Int) (n : Nat) (hl : a.eval l = .int kl L) (hc : a.eval c = .int kc C) (hL : L = (n : Int)) (hC : C = (n : Int)) (hb : bytes ≤ 8) (hn : n ≤ 1099511627776)
    (hK : ∀ w', Own w' K e w.heap.size (List.replicate n 0) → Below w.heap.size w w' → wpList P ops Q rest (a.put o.dst (.slice (some ⟨w.heap.size, 0, none⟩) n n)) w') :
    wpList P ops Q (o :: rest) a w := by
  obtain ⟨i, hi, hz0, hz1, hz2⟩ := info_parts h2
  refine wpList_make_full w hg l c t hop 0 e i (.int K 0) 1 h1 hi hz0 hz1 kl kc L C n hl hc hL hC ?_ (by unfold maxLen; omega) (Nat.zero_le _) ?_
  · rw [hz2]
    have : bytes * n ≤ 8 * n := Nat.mul_le_mul_right _ hb
    omega
  · intro w' hown hgrow
    have hbel : Below w.heap.size w w' := (Below.refl _ w).grown hgrow (Nat.le_refl _) (fun k hk => by cases hk)
    refine hK w' ?_ hbel
    rcases hown.2 with ⟨h, _⟩ | ⟨g, cap, cur, hv, _, hh, _, _, hcs, htake⟩
    · cases h
    · simp only [Value.slice.injEq, Option.some.injEq, Addr.mk.injEq] at hv
      obtain ⟨⟨rfl, _⟩, _, rfl⟩ := hv
      unfold Own
      rw [hh]
      have hcur : cur = cellsOf K (List.replicate n 0) := by
        apply Array.toList_inj.1
        rw [List.take_of_length_le (by simp [hcs])] at htake
        rw [htake]
        apply List.ext_getElem
        · simp [madeCells, cellsOf]
        · intro j h1 h2
          simp [madeCells, cellsOf, Value.cells, Nat.mod_one]
      rw [hcur]

theorem cast_toNat {d : Int} (h : 0 ≤ d) : ((d.toNat : Nat) : Int) = d := Int.toNat_of_nonneg h

end Go.Proofs.Ytppbhjhbaknidaa
