/-
  Numerals as lists of bytes: the numeral of a number, the number of a numeral. No condition.
-/
import Derived.Test.YtppbhjhbaknidaaRefE
import Derived.Laws.BytesArg
namespace Go.Proofs.Ytppbhjhbaknidaa
open Go.RowKit

/-- The bytes of the decimal digits of n, the lowest first; none for 0. -/
def rdec (n : Nat) : List Nat := if h : n = 0 then [] else (48 + n % 10) :: rdec (n / 10)
termination_by n
decreasing_by omega

theorem rdec_zero : rdec 0 = [] := by rw [rdec]; rfl
theorem rdec_pos {n : Nat} (h : n ≠ 0) : rdec n = (48 + n % 10) :: rdec (n / 10) := by rw [rdec, dif_neg h]
theorem rdec_byte (n : Nat) : ∀ x ∈ rdec n, 48 ≤ x ∧ x ≤ 57 := by
  induction n using Nat.strongRecOn with
  | ind n ih =>
    intro x hx
    by_cases h : n = 0
    · subst h; rw [rdec_zero] at hx; exact absurd hx List.not_mem_nil
    · rw [rdec_pos h] at hx
      rcases List.mem_cons.1 hx with hx | hx
      · omega
      · exact ih (n / 10) (by omega) x hx
theorem rdec_len {n : Nat} : ∀ {L : Nat}, n < P2 L → (rdec n).length ≤ L := by
  induction n using Nat.strongRecOn with
  | ind n ih =>
    intro L hL
    by_cases h : n = 0
    · subst h; rw [rdec_zero]; exact Nat.zero_le _
    · rw [rdec_pos h, List.length_cons]
      match L, hL with
      | 0, hL => unfold P2 at hL; omega
      | L + 1, hL =>
        rw [P2_succ] at hL
        have := ih (n / 10) (by omega) (L := L) (by omega)
        omega

/-- The bytes of the numeral of n. -/
def decs (n : Nat) : List Nat := if n = 0 then [48] else (rdec n).reverse

/-- The string of these bytes. -/
def bstr (zs : List Nat) : ByteArray := ⟨(zs.map UInt8.ofNat).toArray⟩
def txt (n : Nat) : ByteArray := bstr (decs n)
theorem strOfNums_bstr (zs : List Nat) : strOfNums (zs.map fun (x : Nat) => (x : Int)) = bstr zs := by
  simp [strOfNums, bstr]
theorem txt_zero : txt 0 = ⟨#[48]⟩ := rfl

theorem Row.cell {w : World} {B : Nat} {K : IntKind} {E : TypeId} {g n cap : Nat} {xs : List Nat} (h : Row w B K E (.slice (some ⟨g, 0, none⟩) n cap) xs) {i : Nat} (hi : i < xs.length) : w.cell? ⟨g, i, none⟩ = some (.int K (nth xs i)) := by
  rcases h.2 with ⟨h1, h2⟩ | ⟨g', cap', cur, hv, _, hg, hc, hcm, hs, ht⟩
  · cases h1
  · cases hv
    have h1 : (intsOf K xs)[i]? = cur[i]? := by
      rw [← ht, List.getElem?_take_of_lt (by omega)]; simp
    have h2 : (intsOf K xs)[i]? = some (.int K (nth xs i)) := by
      simp [intsOf, nth_lt hi, hi]
    simp only [World.cell?, hg]
    rw [← h1, h2]
    rfl

theorem Row.frozen {w : World} {B : Nat} {K : IntKind} {E : TypeId} {g n cap : Nat} {xs : List Nat} (h : Row w B K E (.slice (some ⟨g, 0, none⟩) n cap) xs) (i : Nat) : w.frozen? ⟨g, i, none⟩ = false := by
  rcases h.2 with ⟨h1, h2⟩ | ⟨g', cap', cur, hv, _, hg, hc, hcm, hs, ht⟩
  · cases h1
  · cases hv
    simp [World.frozen?, hg]

theorem Row.seti {w : World} {B : Nat} {K : IntKind} {E : TypeId} {g n cap : Nat} {xs : List Nat} (h : Row w B K E (.slice (some ⟨g, 0, none⟩) n cap) xs) (i : Nat) {z : Int} (d : Nat) (hz : z = d) :
    Row (w.setCell ⟨g, i, none⟩ (.int K z)) B K E (.slice (some ⟨g, 0, none⟩) n cap) (xs.set i d) := by
  subst hz
  rcases h.2 with ⟨h1, h2⟩ | ⟨g', cap', cur, hv, hB, hg, hc, hcm, hs, ht⟩
  · cases h1
  · cases hv
    have e1 : (intsOf K xs).length = xs.length := by simp [intsOf]
    refine ⟨by simp [intsOf], .inr ⟨g, cap, cur.setIfInBounds i (.int K d), by rw [List.length_set], hB, ?_, by rw [List.length_set]; exact hc, hcm, by simpa using hs, ?_⟩⟩
    · simp [World.setCell, Array.getElem?_modify, hg]
    · rw [List.length_set, Array.toList_setIfInBounds, List.take_set, ht]
      simp [intsOf, List.map_set]

theorem IsR.kept {w w' : World} {v r : Value} {m : Nat} (h : IsR w v m) (hk : ∀ k, v.ownBlock = some k → r.ownBlock ≠ some k)
    (he : ∀ k, k < w.heap.size → r.ownBlock ≠ some k → w'.heap[k]? = w.heap[k]?) : IsR w' v m := by
  obtain ⟨xs, ⟨ao, n, cap, b, off, rfl, hs⟩, hc, hv⟩ := h
  refine ⟨xs, ⟨ao, n, cap, b, off, rfl, { hs with cells := fun i hi => ?_ }⟩, hc, hv⟩
  obtain rfl := hs.addr.resolve_right (by omega)
  rw [← hs.cells i hi]
  simp only [World.cell?]
  rw [he b (hs.lt (by omega)) (hk b rfl)]

theorem IsR.slice {w : World} {v : Value} {n : Nat} (h : IsR w v n) : ∃ ao k cap, v = .slice ao k cap ∧ (k = 0 ↔ n = 0) ∧ k ≤ 1099511627776 := by
  obtain ⟨xs, ⟨ao, k, cap, b, off, hv, hs⟩, hc, hn⟩ := h
  refine ⟨ao, k, cap, hv, ⟨fun h0 => ?_, fun h0 => ?_⟩, hs.max.1⟩
  · have : xs = [] := List.length_eq_zero_iff.1 (by rw [hs.len, h0])
    rw [← hn, this]; rfl
  · have := hc.zero (by omega) (by rw [hn, h0])
    rw [← hs.len, this]; rfl

end Go.Proofs.Ytppbhjhbaknidaa
