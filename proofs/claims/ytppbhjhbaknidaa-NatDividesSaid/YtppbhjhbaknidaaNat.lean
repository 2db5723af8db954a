/-
  The contracts of the program's fits, and of its exported methods that return a number and an error. Condition: numbers of at most 2^30 bits.
-/
import Derived.Test.YtppbhjhbaknidaaGcd
namespace Go.Proofs.Ytppbhjhbaknidaa
open Go.RowKit

theorem IsN.slice {w : World} {v : Value} {n : Nat} (h : IsN w v n) : ∃ ao k cap, v = .slice ao k cap := by
  obtain ⟨xs, ⟨ao, k, cap, b, off, hv, hs⟩, hc, hn⟩ := h
  exact ⟨ao, k, cap, hv⟩

/-- A block of the call's own, its cells written out. -/
def Blk (w : World) (R : Nat) (cs : Array Value) (T : TypeId) : Prop := w.heap[R]? = some (.cells cs T (0, 0))
/-- None of them a number. -/
def NoInt (cs : Array Value) : Prop := ∀ (i : Nat) (K : IntKind) (z : Int), cs[i]? ≠ some (.int K z)

theorem NoInt.one {a : Option Addr} {k c : Nat} : NoInt #[.slice a k c] := by
  intro i K z h
  match i, h with
  | 0, h => simp at h
  | i + 1, h => simp at h
theorem NoInt.two {a a2 : Option Addr} {k c k2 c2 : Nat} : NoInt #[.slice a k c, .slice a2 k2 c2] := by
  intro i K z h
  match i, h with
  | 0, h => simp at h
  | 1, h => simp at h
  | i + 2, h => simp at h

theorem Blk.new (w : World) (cs : Array Value) (T : TypeId) : Blk (w.alloc (.cells cs T)) w.heap.size cs T := heap_alloc_new w _
theorem Blk.alloc {w : World} {R : Nat} {cs : Array Value} {T : TypeId} (h : Blk w R cs T) (o : Obj) : Blk (w.alloc o) R cs T := by
  unfold Blk at *
  rw [heap_alloc_old w o (Array.getElem?_eq_some_iff.1 h).1]; exact h
theorem Blk.lt {w : World} {R : Nat} {cs : Array Value} {T : TypeId} (h : Blk w R cs T) : R < w.heap.size := (Array.getElem?_eq_some_iff.1 h).1
theorem Blk.below {w w' : World} {R : Nat} {cs : Array Value} {T : TypeId} (h : Blk w R cs T) (hb : Below w.heap.size w w') : Blk w' R cs T := by
  have hl := h.lt
  unfold Blk at *
  rw [hb.block R hl]; exact h
theorem Blk.set {w : World} {R : Nat} {cs : Array Value} {T : TypeId} (h : Blk w R cs T) (i : Nat) (v : Value) : Blk (w.setCell ⟨R, i, none⟩ v) R (cs.setIfInBounds i v) T := by
  unfold Blk at *
  simp only [World.setCell, Array.getElem?_modify, h, Option.map_some, if_true]
  simp
theorem Blk.setOther {w : World} {R R' : Nat} {cs : Array Value} {T : TypeId} (h : Blk w R cs T) (i : Nat) (v : Value) (hne : R ≠ R') : Blk (w.setCell ⟨R', i, none⟩ v) R cs T := by
  unfold Blk at *
  rw [Below.heap_setCell _ _ _ _ hne]; exact h
theorem Blk.cell {w : World} {R : Nat} {cs : Array Value} {T : TypeId} (h : Blk w R cs T) (i : Nat) : w.cell? ⟨R, i, none⟩ = cs[i]? := by
  unfold Blk at h; simp [World.cell?, h]
theorem Blk.frozen {w : World} {R : Nat} {cs : Array Value} {T : TypeId} (h : Blk w R cs T) (i : Nat) : w.frozen? ⟨R, i, none⟩ = false := by
  unfold Blk at h; simp [World.frozen?, h]

theorem SlAt.blk {w : World} {K : IntKind} {ao : Option Addr} {n cap b off R : Nat} {xs : List Nat} {cs : Array Value} {T : TypeId} (h : SlAt w K ao n cap b off xs) (hb : Blk w R cs T) (hn : NoInt cs) (h0 : 0 < n) : b ≠ R := by
  intro e
  subst e
  have h1 := h.cells 0 h0
  rw [hb.cell] at h1
  exact hn _ _ _ h1

theorem Sl.setBlk {w : World} {K : IntKind} {s : Value} {xs : List Nat} {R : Nat} {cs : Array Value} {T : TypeId} (h : Sl w K s xs) (hb : Blk w R cs T) (hn : NoInt cs) (i : Nat) (v : Value) : Sl (w.setCell ⟨R, i, none⟩ v) K s xs := by
  obtain ⟨ao, n, cap, b, off, rfl, hs⟩ := h
  by_cases h0 : 0 < n
  · exact (hs.setOther i v (hs.blk hb hn h0)).sl
  · exact ⟨ao, n, cap, b, off, rfl, { hs with cells := fun j hj => by omega }⟩

theorem IsN.setBlk {w : World} {s : Value} {n R : Nat} {cs : Array Value} {T : TypeId} (h : IsN w s n) (hb : Blk w R cs T) (hn : NoInt cs) (i : Nat) (v : Value) : IsN (w.setCell ⟨R, i, none⟩ v) s n := by
  obtain ⟨xs, h1, h2, h3⟩ := h
  exact ⟨xs, h1.setBlk hb hn i v, h2, h3⟩

/-- A Nat value: one field. -/
def IsNat (w : World) (v : Value) (n : Nat) : Prop := ∃ s, v = .agg #[s] ∧ IsN w s n

theorem IsNat.below {w w' : World} {v : Value} {n : Nat} (h : IsNat w v n) (hb : Below w.heap.size w w') : IsNat w' v n :=
  let ⟨s, h1, h2⟩ := h
  ⟨s, h1, h2.below hb⟩
theorem IsNat.zero (w : World) : IsNat w (.agg #[.slice none 0 0]) 0 := ⟨_, rfl, IsN.zero w⟩

/-- A number and the error code er (0 where there is none; then the number is n, else 0). -/
def RetE (w : World) (n er : Nat) (e : Ending) (w' : World) : Prop := ∃ v, e = .returned (.tuple #[v, .int .i64 er]) ∧ IsNat w' v (if er = 0 then n else 0) ∧ Below w.heap.size w w'

def fitE (n : Nat) : Nat := if n < P2 16384 then 0 else 3

set_option maxHeartbeats 400000 in
theorem fits_any {w : World} {v : Value} {n : Nat} (ha : IsN w v n) (L : Nat) (hL : L ≤ 8589934592) (hn : n < P2 L) :
    Calls Try.prog 102 #[v] w (RetE w n (fitE n)) := by
  have hbl : blen n ≤ 16384 ↔ n < P2 16384 := blen_le
  have hbL : blen n ≤ L := blen_le.2 hn
  by_cases h : n < P2 16384
  · have hf : fitE n = 0 := if_pos h
    rw [hf]
    have hb := hbl.2 h
    clear hf hbl h
    obtain ⟨ao, k, cap, rfl⟩ := ha.slice
    go_enter Try.func102, Try.ntmps102
    go_wp2_with fail
    refine (bitLen_any (ha.below ((Below.refl _ _).alloc (Nat.le_refl _) _)) L hL hn).mono ?_
    rintro e w1 ⟨rfl, hw⟩
    subst hw
    go_wp2
    have hbel : Below w.heap.size w (w.alloc (.cells #[.slice ao k cap] 25)) := (Below.refl _ _).alloc (Nat.le_refl _) _
    exact bodyPost_ret (v := .tuple #[.agg #[.slice ao k cap], .int .i64 0]) (by simp [results, Try.results102, go_sem]) rfl ⟨_, rfl, ⟨_, rfl, ha.below hbel⟩, hbel⟩
  · have hf : fitE n = 3 := if_neg h
    rw [hf]
    have hb : ¬ blen n ≤ 16384 := fun hc => h (hbl.1 hc)
    clear hf hbl h
    obtain ⟨ao, k, cap, rfl⟩ := ha.slice
    go_enter Try.func102, Try.ntmps102
    go_wp2_with fail
    refine (bitLen_any (ha.below ((Below.refl _ _).alloc (Nat.le_refl _) _)) L hL hn).mono ?_
    rintro e w1 ⟨rfl, hw⟩
    subst hw
    go_wp2
    exact bodyPost_ret (v := .tuple #[.agg #[.slice none 0 0], .int .i64 3]) (by simp [results, Try.results102, go_sem]) rfl ⟨_, rfl, IsNat.zero _, (Below.refl _ _).alloc (Nat.le_refl _) _⟩
set_option maxHeartbeats 400000 in
theorem Add_any {w : World} {a b : Value} {m n : Nat} (ha : IsNat w a m) (hb : IsNat w b n) (L : Nat) (hL : L ≤ 1073741824) (hm : m < P2 L) (hn : n < P2 L) :
    Calls Try.prog 44 #[a, b] w (RetE w (m + n) (fitE (m + n))) := by
  obtain ⟨a, rfl, ha⟩ := ha
  obtain ⟨b, rfl, hb⟩ := hb
  obtain ⟨ao, k, cap, rfl⟩ := ha.slice
  obtain ⟨ao2, k2, cap2, rfl⟩ := hb.slice
  go_enter Try.func44, Try.ntmps44
  go_wp2_with fail
  have hB0 : Below w.heap.size w (((w.alloc (.cells #[.slice ao k cap] 25)).alloc (.cells #[.slice ao2 k2 cap2] 25)).alloc (.cells #[.slice none 0 0] 25)) :=
    (((Below.refl _ _).alloc (Nat.le_refl _) _).alloc (by simp) _).alloc (by simp; omega) _
  refine (add_any (ha.below hB0) (hb.below hB0) L (by omega) hm hn).mono ?_
  rintro e w1 ⟨v, rfl, iv, b1⟩
  go_wp2_with fail
  refine (fits_any iv (L + 1) (by omega) (add_lt_P2 hm hn)).mono ?_
  rintro e w2 ⟨v2, rfl, ⟨s2, rfl, is2⟩, b2⟩
  obtain ⟨ao3, k3, cap3, rfl⟩ := is2.slice
  have hB2 := nextB b1 b2
  have h0 := Blk.new ((w.alloc (.cells #[.slice ao k cap] 25)).alloc (.cells #[.slice ao2 k2 cap2] 25)) #[.slice none 0 0] 25
  have hz : ((w.alloc (.cells #[.slice ao k cap] 25)).alloc (.cells #[.slice ao2 k2 cap2] 25)).heap.size = w.heap.size + 1 + 1 := by simp
  rw [hz] at h0
  have rb := h0.below hB2
  have rc := rb.cell 0
  have rf := rb.frozen 0
  rw [show (#[Value.slice none 0 0] : Array Value)[0]? = some (.slice none 0 0) from rfl] at rc
  have hB := hB0.trans (hB2.mono (Nat.le_of_lt (by simp; omega)))
  go_wp2
  refine bodyPost_ret (v := .tuple #[.agg #[.slice ao3 k3 cap3], .int .i64 (fitE (m + n) : Nat)]) (by simp [results, Try.results44, go_sem, rc]) rfl ⟨_, rfl, ⟨_, rfl, is2.setBlk rb NoInt.one _ _⟩, hB.setCell (by simp; omega) _⟩

end Go.Proofs.Ytppbhjhbaknidaa
