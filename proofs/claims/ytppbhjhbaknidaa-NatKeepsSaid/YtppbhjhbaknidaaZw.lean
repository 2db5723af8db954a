/-
  Weak contracts for the law NatKeeps: what each operation returns is some number below 2^2000. Conditions: the bounds that each states. The walk of the law NatKeeps. No condition.
-/
import Derived.Test.YtppbhjhbaknidaaZv
import Derived.Deep.DeepCutAuto
import Derived.Deep.AppendLies
set_option linter.unusedVariables false
set_option linter.unusedSimpArgs false

/-
  Weak contracts for the law NatKeeps: what each operation returns is some number below 2^2000. Conditions: the bounds that each states.
-/
set_option linter.unusedVariables false
set_option linter.unusedSimpArgs false
namespace Go.Proofs.Ytppbhjhbaknidaa
open Go.RowKit

/-- Some number below 2^L. -/
def Nu (w : World) (L : Nat) (v : Value) : Prop := ∃ k, IsNat w v k ∧ k < P2 L
theorem Nu.below {w w' : World} {L : Nat} {v : Value} (h : Nu w L v) (b : Below w.heap.size w w') : Nu w' L v := let ⟨k, h1, h2⟩ := h; ⟨k, h1.below b, h2⟩
theorem Nu.mono {w : World} {L L' : Nat} {v : Value} (h : Nu w L v) (hl : L ≤ L') : Nu w L' v := let ⟨k, h1, h2⟩ := h; ⟨k, h1, lt_P2_mono h2 hl⟩
theorem Nu.of {w : World} {L k : Nat} {v : Value} (h : IsNat w v k) (hl : k < P2 L) : Nu w L v := ⟨k, h, hl⟩
def Nu1 (w : World) (L : Nat) (e : Ending) (w' : World) : Prop := ∃ v, e = .returned v ∧ Nu w' L v ∧ Below w.heap.size w w'
def NuE (w : World) (L : Nat) (e : Ending) (w' : World) : Prop := ∃ v er, e = .returned (.tuple #[v, .int .i64 er]) ∧ Nu w' L v ∧ Below w.heap.size w w'
def NuEE (w : World) (L : Nat) (e : Ending) (w' : World) : Prop := ∃ u v er, e = .returned (.tuple #[u, v, .int .i64 er]) ∧ Nu w' L u ∧ Nu w' L v ∧ Below w.heap.size w w'
theorem NuE.of {w : World} {n er L : Nat} (hl : n < P2 L) {e : Ending} {w' : World} (h : RetE w n er e w') : NuE w L e w' := by
  obtain ⟨v, h1, h2, h3⟩ := h
  refine ⟨v, _, h1, ⟨_, h2, ?_⟩, h3⟩
  split
  · exact hl
  · exact P2_pos _
theorem kadd {w : World} {a b : Value} {L : Nat} (hL : L ≤ 16384) (ha : Nu w L a) (hb : Nu w L b) : Calls Try.prog 44 #[a, b] w (NuE w (L + 1)) := by
  obtain ⟨m, h1, h2⟩ := ha
  obtain ⟨n, h3, h4⟩ := hb
  exact (Add_any h1 h3 L (by omega) h2 h4).mono fun e w' h => NuE.of (add_lt_P2 h2 h4) h
theorem kmul {w : World} {a b : Value} {L : Nat} (hL : L ≤ 16384) (ha : Nu w L a) (hb : Nu w L b) : Calls Try.prog 37 #[a, b] w (NuE w (L + L)) := by
  obtain ⟨m, h1, h2⟩ := ha
  obtain ⟨n, h3, h4⟩ := hb
  exact (Mul_any h1 h3 L (by omega) h2 h4).mono fun e w' h => NuE.of (mul_lt_P2 h2 h4) h
theorem ksub {w : World} {a b : Value} {L : Nat} (hL : L ≤ 16384) (ha : Nu w L a) (hb : Nu w L b) : Calls Try.prog 54 #[a, b] w (NuE w L) := by
  obtain ⟨m, h1, h2⟩ := ha
  obtain ⟨n, h3, h4⟩ := hb
  exact (Sub_any h1 h3 L (by omega) h2).mono fun e w' h => NuE.of (Nat.lt_of_le_of_lt (Nat.sub_le _ _) h2) h
theorem kdiv {w : World} {a b : Value} {L : Nat} (hL : L ≤ 16384) (ha : Nu w L a) (hb : Nu w L b) : Calls Try.prog 58 #[a, b] w (NuEE w L) := by
  obtain ⟨m, h1, h2⟩ := ha
  obtain ⟨n, h3, h4⟩ := hb
  rcases Nat.eq_zero_or_pos n with h0 | h0
  · subst h0
    exact (DivMod_zero h1 h3).mono fun e w' ⟨u, v, g1, g2, g3, g4⟩ => ⟨u, v, _, g1, ⟨_, g2, P2_pos _⟩, ⟨_, g3, P2_pos _⟩, g4⟩
  · exact (DivMod_any h1 h3 h0 L (by omega) h2).mono fun e w' ⟨u, v, g1, g2, g3, g4⟩ => ⟨u, v, _, g1, ⟨_, g2, Nat.lt_of_le_of_lt (Nat.div_le_self _ _) h2⟩, ⟨_, g3, Nat.lt_of_le_of_lt (Nat.mod_le _ _) h2⟩, g4⟩
theorem kP2 {a b : Nat} (h : a < b) : P2 a < P2 b := Nat.pow_lt_pow_right (by omega) h
theorem klsh {w : World} {a : Value} {L : Nat} (hL : L ≤ 16384) (ha : Nu w L a) (n : Int) (hn : n < 512) : Calls Try.prog 72 #[a, .int .i64 n] w (NuE w (L + 512)) := by
  obtain ⟨m, h1, h2⟩ := ha
  rcases Classical.em (n < 0) with h0 | h0
  · exact (Lsh_neg h1 n h0).mono fun e w' h => NuE.of (P2_pos _) h
  · obtain ⟨k, rfl⟩ := Int.eq_ofNat_of_zero_le (show 0 ≤ n by omega)
    exact (Lsh_any h1 k (by omega) L (by omega) h2).mono fun e w' h => NuE.of (mul_lt_P2 h2 (kP2 (by omega))) h
theorem krsh {w : World} {a : Value} {L : Nat} (hL : L ≤ 16384) (ha : Nu w L a) (n : Int) (hn : n < 512) : Calls Try.prog 73 #[a, .int .i64 n] w (NuE w L) := by
  obtain ⟨m, h1, h2⟩ := ha
  rcases Classical.em (n < 0) with h0 | h0
  · exact (Rsh_neg h1 n h0).mono fun e w' h => NuE.of (P2_pos _) h
  · obtain ⟨k, rfl⟩ := Int.eq_ofNat_of_zero_le (show 0 ≤ n by omega)
    exact (Rsh_any h1 k (by omega) (lt_P2_mono h2 (by omega))).mono fun e w' h => NuE.of (Nat.lt_of_le_of_lt (Nat.div_le_self _ _) h2) h
theorem ksqrt {w : World} {a : Value} {L : Nat} (hL : L ≤ 16384) (ha : Nu w L a) : Calls Try.prog 71 #[a] w (Nu1 w L) := by
  obtain ⟨m, h1, h2⟩ := ha
  refine (Sqrt_any h1 L (by omega) h2).mono ?_
  rintro e w' ⟨r, hr, v, g1, g2, g3⟩
  refine ⟨v, g1, ⟨r, g2, Nat.lt_of_le_of_lt ?_ h2⟩, g3⟩
  have h := hr.1
  rcases Nat.eq_zero_or_pos r with h0 | h0
  · omega
  · exact Nat.le_trans (Nat.le_mul_of_pos_left r h0) h
theorem kgcd {w : World} {a b : Value} {L : Nat} (hL : L ≤ 16384) (ha : Nu w L a) (hb : Nu w L b) : Calls Try.prog 42 #[a, b] w (Nu1 w L) := by
  obtain ⟨m, h1, h2⟩ := ha
  obtain ⟨n, h3, h4⟩ := hb
  refine (Gcd_any h1 h3 L (by omega) h2 h4).mono ?_
  rintro e w' ⟨v, g1, g2, g3⟩
  refine ⟨v, g1, ⟨_, g2, ?_⟩, g3⟩
  rcases Nat.eq_zero_or_pos m with h0 | h0
  · rw [h0, Nat.gcd_zero_left]; exact h4
  · exact Nat.lt_of_le_of_lt (Nat.le_of_dvd h0 (Nat.gcd_dvd_left m n)) h2

/-- Some fraction in lowest terms, below 2^L. -/
def Fu (w : World) (L : Nat) (v : Value) : Prop := ∃ n d, IsF w v n d ∧ n < P2 L ∧ d < P2 L ∧ Nat.gcd n d = 1
theorem Fu.below {w w' : World} {L : Nat} {v : Value} (h : Fu w L v) (b : Below w.heap.size w w') : Fu w' L v := let ⟨n, d, h1, h2, h3, h4⟩ := h; ⟨n, d, h1.below b, h2, h3, h4⟩
def FuE (w : World) (L : Nat) (e : Ending) (w' : World) : Prop := ∃ v er, e = .returned (.tuple #[v, .int .i64 er]) ∧ Fu w' L v ∧ Below w.heap.size w w'
/-- It returns something, and writes nothing that was there. -/
def Any1 (w : World) (e : Ending) (w' : World) : Prop := ∃ v, e = .returned v ∧ Below w.heap.size w w'
theorem kfrac {w : World} {a b : Value} {L : Nat} (hL0 : 1 ≤ L) (hL : L ≤ 16384) (ha : Nu w L a) (hb : Nu w L b) : Calls Try.prog 46 #[a, b] w (FuE w L) := by
  obtain ⟨m, h1, h2⟩ := ha
  obtain ⟨n, h3, h4⟩ := hb
  have e1 : 1 < P2 L := by
    have := P2_mono hL0
    have e : P2 1 = 2 := rfl
    omega
  rcases Nat.eq_zero_or_pos n with h0 | h0
  · subst h0
    exact (NewFrac_zero h1 h3).mono fun e w' ⟨v, g1, g2, g3⟩ => ⟨v, _, g1, ⟨0, 1, g2, P2_pos _, e1, rfl⟩, g3⟩
  · have hf := low_facts h0 h2 h4
    exact (NewFrac_any h1 h3 h0 L (by omega) h2 h4).mono fun e w' ⟨v, g1, g2, g3⟩ => ⟨v, _, g1, ⟨_, _, g2, hf.2.2.1, hf.2.2.2, hf.2.1⟩, g3⟩
theorem kfnum {w : World} {f : Value} {L : Nat} (hf : Fu w L f) : Calls Try.prog 50 #[f] w (Nu1 w L) := by
  obtain ⟨n, d, h1, h2, h3, h4⟩ := hf
  exact (FNum_any h1).mono fun e w' ⟨v, g1, g2, g3⟩ => ⟨v, g1, ⟨n, g2, h2⟩, g3⟩
theorem kfadd {w : World} {f : Value} {L : Nat} (hL : L ≤ 16384) (hf : Fu w L f) : Calls Try.prog 64 #[f, f] w (Any1 w) := by
  obtain ⟨n, d, h1, h2, h3, h4⟩ := hf
  exact (FAdd_any h1 h1 L hL h2 h3 h2 h3).mono fun e w' ⟨v, g1, g2, g3⟩ => ⟨_, g1, g3⟩
theorem kbest {w : World} {f : Value} {L : Nat} (hL : L ≤ 16384) (hf : Fu w L f) : Calls Try.prog 93 #[f, .int .i64 9] w (Any1 w) := by
  obtain ⟨n, d, h1, h2, h3, h4⟩ := hf
  have := Best_any h1 h4 (M := 9) (by omega) (by omega) L (by omega) h2 h3
  exact this.mono fun e w' ⟨r, s, h, v, g1, g2, g3⟩ => ⟨_, g1, g3⟩

end Go.Proofs.Ytppbhjhbaknidaa

/-
  The walk of the law NatKeeps. No condition.
-/
set_option linter.unusedVariables false
set_option linter.unusedSimpArgs false
namespace Go.Proofs.Ytppbhjhbaknidaa
open Go.RowKit

theorem IsNat.of {w : World} {v : Value} {n : Nat} (h : IsN w v n) : IsNat w (.agg #[v]) n := ⟨v, rfl, h⟩
theorem blk2 (w : World) (a b : Value) : Below w.heap.size w (w.alloc (.cells #[a, b] 25)) ∧ Blk (w.alloc (.cells #[a, b] 25)) w.heap.size #[a, b] 25 := ⟨below_alloc _ _, Blk.new w _ _⟩
theorem row2 {w : World} {R : Nat} {a b : Value} (h : Blk w R #[a, b] 25) : w.ownsRow R 25 1 (.slice (some ⟨R, 0, none⟩) 2 2) 2 [a, b] :=
  ⟨by simp, .inr ⟨R, 2, #[a, b], rfl, Nat.le_refl _, h, by omega, by unfold maxLen; omega, rfl, rfl⟩⟩
theorem Sl.grown {w w' : World} {K : IntKind} {v : Value} {xs : List Nat} {R : Nat} {cs : Array Value} {T : TypeId} (h : Sl w K v xs) (hb : Blk w R cs T) (hn : NoInt cs) (hg : w.grownBy w' (some R)) : Sl w' K v xs := by
  obtain ⟨ao, n, cap, b, off, rfl, hs⟩ := h
  refine ⟨ao, n, cap, b, off, rfl, { hs with cells := fun i hi => hg.cell (hs.cells i hi) ?_ }⟩
  intro he
  injection he with he
  exact hs.blk hb hn (by omega) he
theorem IsN.grown {w w' : World} {v : Value} {n : Nat} {R : Nat} {cs : Array Value} {T : TypeId} (h : IsN w v n) (hb : Blk w R cs T) (hn : NoInt cs) (hg : w.grownBy w' (some R)) : IsN w' v n := by
  obtain ⟨xs, h1, h2, h3⟩ := h
  exact ⟨xs, h1.grown hb hn hg, h2, h3⟩
theorem below_grown {B : Nat} {a w w' : World} {R : Nat} (h : Below B a w) (hg : w.grownBy w' (some R)) (hR : B ≤ R) (hB : B ≤ w.heap.size) : Below B a w' :=
  ⟨hg.os.trans h.os, hg.tape.trans h.tape, hg.output.trans h.output, Nat.le_trans h.size hg.size, fun k hk => (hg.block k (by omega) (by simp; omega)).trans (h.block k hk)⟩
theorem Bx.grown {w w' : World} {R Rl : Nat} {s : Value} {a b : Value} (h : Bx w R s) (hl : Blk w Rl #[a, b] 25) (hg : w.grownBy w' (some Rl)) : Bx w' R s := by
  have hne : R ≠ Rl := by
    rintro rfl
    have := h.blk.symm.trans hl
    simp at this
  exact (show Blk w' R #[s] 25 from (hg.block R h.lt (by simp; exact hne)).trans h.blk).bx
theorem bx_cell_grown {w w' : World} {R Rl : Nat} {s u : Value} {a b : Value} (h : Bx w R s) (hl : Blk w Rl #[a, b] 25) (hg : w.grownBy w' (some Rl)) : w'.cell? ⟨R, 0, none⟩ = some s := (h.grown hl hg).cell
theorem row_cells {w : World} {B E g n cap : Nat} {xs : List Value} (h : w.ownsRow B E 1 (.slice (some ⟨g, 0, none⟩) n cap) n xs) {j : Nat} {u : Value} (hj : xs[j]? = some u) : w.cell? ⟨g, j, none⟩ = some u := by
  obtain ⟨h1, ⟨h2, -⟩ | ⟨g', cap', cur, hv, h3, h4, h5, h6, h7, h8⟩⟩ := h
  · cases h2
  · injection hv with hv1 hv2 hv3
    injection hv1 with hv1
    injection hv1 with hv1
    subst hv1
    have hlt : j < xs.length := (List.getElem?_eq_some_iff.1 hj).1
    rw [← h8, List.getElem?_take_of_lt (by omega)] at hj
    simp only [World.cell?, h4]
    simpa using hj
/-- The eleven numbers that the slice of block g holds. -/
def EL (w : World) (g : Nat) (nn : Nat → Nat) : Prop := ∀ j, j < 11 → ∃ ao k cap, w.cell? ⟨g, j, none⟩ = some (.slice ao k cap) ∧ IsN w (.slice ao k cap) (nn j) ∧ nn j < P2 2000
theorem EL.below {w w' : World} {g : Nat} {nn : Nat → Nat} (h : EL w g nn) (hb : Below w.heap.size w w') : EL w' g nn := fun j hj => by
  obtain ⟨ao, k, cap, h1, h2, h3⟩ := h j hj
  exact ⟨ao, k, cap, (hb.cell (p := ⟨g, j, none⟩) (World.block_lt_of_cell? w _ h1)).trans h1, h2.below hb, h3⟩
/-- The texts of the first j numbers: a row of the call's own. -/
def TRow (w : World) (B : Nat) (v : Value) (j : Nat) (nn : Nat → Nat) : Prop := w.ownsRow B 9 1 v j ((List.range j).map fun i => .string (txt (nn i)))
theorem TRow.nil (w : World) (B : Nat) (nn : Nat → Nat) : TRow w B (.slice none 0 0) 0 nn := World.ownsRow_nil w B 9 1
theorem TRow.lt {w : World} {B j : Nat} {v : Value} {nn : Nat → Nat} (h : TRow w B v j nn) : ∀ k, v.ownBlock = some k → B ≤ k ∧ k < w.heap.size := World.ownsRow.lt h
theorem TRow.below {w w' : World} {B j : Nat} {v : Value} {nn : Nat → Nat} (h : TRow w B v j nn) (hb : Below w.heap.size w w') : TRow w' B v j nn := by
  obtain ⟨h1, h2⟩ := h
  refine ⟨h1, h2.imp id ?_⟩
  rintro ⟨g, cap, cur, hv, h3, h4, h5⟩
  refine ⟨g, cap, cur, hv, h3, ?_, h5⟩
  rw [hb.block g (Array.getElem?_eq_some_iff.1 h4).1]; exact h4
/-- The texts of the eleven numbers, in block g. -/
def TL (w : World) (g : Nat) (nn : Nat → Nat) : Prop := ∀ j, j < 11 → w.cell? ⟨g, j, none⟩ = some (.string (txt (nn j)))
theorem TL.below {w w' : World} {g : Nat} {nn : Nat → Nat} (h : TL w g nn) (hb : Below w.heap.size w w') : TL w' g nn := fun j hj => (hb.cell (p := ⟨g, j, none⟩) (World.block_lt_of_cell? w _ (h j hj))).trans (h j hj)
theorem TRow.open {w : World} {B : Nat} {v : Value} {nn : Nat → Nat} (h : TRow w B v 11 nn) : ∃ g cap, v = .slice (some ⟨g, 0, none⟩) 11 cap ∧ TL w g nn := by
  rcases id h.2 with ⟨-, h2⟩ | ⟨g, cap, cur, hv, -⟩
  · cases h2
  · subst hv
    exact ⟨g, cap, rfl, fun j hj => row_cells h (by simp [hj])⟩
/-- What the region of NewFrac leaves. -/
def FR (wz wx : World) (x : Value) : Prop := ∃ (R : Nat) (ao1 : Option Addr) (k1 cap1 : Nat) (ao2 : Option Addr) (k2 cap2 : Nat), x = .pointer (some ⟨R, 0, none⟩) ∧ wx.cell? ⟨R, 0, none⟩ = some (.slice ao1 k1 cap1) ∧ wx.cell? ⟨R, 1, none⟩ = some (.slice ao2 k2 cap2) ∧ Fu wx 2000 (.agg #[.slice ao1 k1 cap1, .slice ao2 k2 cap2]) ∧ Below wz.heap.size wz wx
theorem fr_new {wz wq : World} {a b : Option Addr} {i i' j j' : Nat} (D : Below wz.heap.size wz wq) (h : Fu wq 2000 (.agg #[.slice a i i', .slice b j j'])) : FR wz (wq.alloc (.cells #[.slice a i i', .slice b j j'] 50)) (.pointer (some ⟨wq.heap.size, 0, none⟩)) := by
  obtain ⟨b1, k1⟩ := prof wq (.slice a i i') (.slice b j j')
  exact ⟨_, _, _, _, _, _, _, rfl, k1.cell0, k1.cell1, h.below b1, nextB D b1⟩
theorem fr_old {wz wq : World} {R : Nat} {a b : Option Addr} {i i' j j' : Nat} (D : Below wz.heap.size wz wq) (h : Fu wq 2000 (.agg #[.slice a i i', .slice b j j'])) (q : Fx wq R NS NS) (hR : wz.heap.size ≤ R) : FR wz ((wq.setCell ⟨R, 0, none⟩ (.slice a i i')).setCell ⟨R, 1, none⟩ (.slice b j j')) (.pointer (some ⟨R, 0, none⟩)) := by
  have q1 := q.set0 (.slice a i i')
  have q2 := q1.set1 (.slice b j j')
  obtain ⟨n, d, h1, h2⟩ := h
  exact ⟨_, _, _, _, _, _, _, rfl, q2.cell0, q2.cell1, ⟨n, d, (h1.setB q 0 _).setB q1 1 _, h2⟩, (D.setCell (p := ⟨R, 0, none⟩) hR _).setCell (p := ⟨R, 1, none⟩) hR _⟩
theorem el_keep {wo W : World} {g j : Nat} {a b : Value} (hk : Below wo.heap.size wo W) (l1 : g < wo.heap.size) (l2 : g < wo.heap.size) (c0 : wo.cell? ⟨g, j, none⟩ = some a) (c1 : wo.cell? ⟨g, j + 1, none⟩ = some b) :
    W.cell? ⟨g, j, none⟩ = some a ∧ W.cell? ⟨g, j + 1, none⟩ = some b ∧ Below wo.heap.size wo W :=
  ⟨(hk.cell (p := ⟨g, j, none⟩) l1).trans c0, (hk.cell (p := ⟨g, j + 1, none⟩) l2).trans c1, hk⟩
structure JF (j gk : Nat) : Prop where
  hA : j < 11
  hB : j + 1 < 11
  g : j + 1 + (gk - 1) = 10
  m : gk - 1 < gk
  i0 : (0 : Int) ≤ (j : Int)
  i1 : (j : Int) < 11
  i2 : (0 : Int) ≤ (j : Int) + 1
  i3 : (j : Int) + 1 < 11
  w1 : IntKind.i64.wrap ((j : Int) + 1) = (j : Int) + 1
  w2 : wrap64 ((j : Int) + 1) = (j : Int) + 1
  l : (j : Int) < 512
theorem jf_of {j gk : Nat} (h : j + gk = 10) (h0 : ¬ gk = 0) : JF j gk :=
  ⟨by omega, by omega, by omega, by omega, by omega, by omega, by omega, by omega, IntWalk.i64_in _ (by omega), by unfold wrap64; omega, by omega⟩
theorem info9 : ∃ i, Try.prog.info? 9 = some i ∧ i.zero = some (.string ⟨#[]⟩) ∧ i.size = 1 ∧ i.bytes = 16 := info_parts (by kernel_rfl)
/-- 'append(texts, s)' to the row of texts. -/
theorem wpList_append_txt {ops : Array Oper} {rest : List Oper} {o : Oper} {a : Act} {Q : Exit → Act → World → Prop} (w0 : World) (hgd : o.guard = none) (s x : Operand) (t : TypeId)
    (ho : o.op = .call { callee := .builtin .append, args := #[s, x], argTypes := #[t, t] }) (h1 : Try.prog.underlying t = some (.slice 9))
    (B : Nat) (v : Value) (j : Nat) (nn : Nat → Nat) (hs : a.eval s = v) (hrow : TRow w0 B v j nn) (hx : a.eval x = .slice (some ⟨w0.heap.size, 0, none⟩) 1 1) (hn : j < 1099511627776) (hB : B ≤ w0.heap.size)
    (h : ∀ v' w', TRow w' B v' (j + 1) nn → Below B w0 w' → wpList Try.prog ops Q rest (a.put o.dst v') w') :
    wpList Try.prog ops Q (o :: rest) a (w0.alloc (.cells #[.string (txt (nn j))] 9)) := by
  obtain ⟨i, hi, hz0, hz1, hz2⟩ := info9
  refine wpList_append_own _ hgd s x t ho B 9 i (.string ⟨#[]⟩) 1 16 h1 hi hz0 hz1 hz2 rfl (by decide) v j _ hs (World.ownsRow.alloc hrow _) ⟨w0.heap.size, 0, none⟩ 1 1 [.string (txt (nn j))] hx rfl ?_ ?_ ?_ (by omega) (by simp; omega) ?_
  · intro p u hj
    match p, hj with
    | 0, hj => simp at hj; subst hj; simp [Addr.add]
  · intro u hu; simp at hu; subst hu; rfl
  · unfold maxLen; omega
  · intro v' w' hown hgrow _
    refine h v' w' ?_ ?_
    · unfold TRow
      rw [List.range_succ, List.map_append]
      exact hown
    · exact ((Below.refl _ _).alloc hB _).grown hgrow (by simp; omega) (fun k hk => (TRow.lt hrow k hk).1)
theorem info25 : ∃ i, Try.prog.info? 25 = some i ∧ i.zero = some (.agg #[.slice none 0 0]) ∧ i.size = 1 ∧ i.bytes = 24 := info_parts (by kernel_rfl)

set_option maxHeartbeats 64000000 in
set_option maxRecDepth 100000 in
theorem NatKeeps_walk (va : Value) (vb : Value) (n : Int) (w : World) (ia : In16 w va) (ib : In16 w vb) (hnr : -9223372036854775808 ≤ n ∧ n ≤ 9223372036854775807) :
    Calls Try.prog 28 #[va, vb, .int .i64 n] w (RetB w true) := by
  have hB := Below.refl w.heap.size w
  go_enter Try.func28, Try.ntmps28
  go_wp2_with fail
  refine (raw_any ia 60 (by omega)).mono ?_
  rintro e w1 ⟨m, hm, rm, rfl, imr, b⟩
  replace hB := nextB hB b
  replace ia := ia.below b
  replace ib := ib.below b
  clear b
  have Hm := Lib.hid hm
  clear hm
  go_wp2_with fail
  refine (raw_any ib 60 (by omega)).mono ?_
  rintro e w2 ⟨k, hk, rk, rfl, ikr, b⟩
  replace hB := nextB hB b
  replace ia := ia.below b
  replace ib := ib.below b
  replace imr := imr.below b
  clear b
  have Hk := Lib.hid hk
  clear hk
  have Km : Hid (m < P2 960) := Hm
  have Hm := Lib.hid (lt_P2_mono Hm.out (show 16 * 60 ≤ 16384 by omega))
  have Kk : Hid (k < P2 960) := Hk
  have Hk := Lib.hid (lt_P2_mono Hk.out (show 16 * 60 ≤ 16384 by omega))
  go_wp2_with fail
  refine (two_any imr ikr Hm.out Hk.out).mono ?_
  rintro e w3 ⟨u1, u2, rfl, j1, j2, b⟩
  obtain ⟨aox, qx, capx, rfl, xx⟩ := j1.slice
  clear j1
  obtain ⟨aoy, qy, capy, rfl, xy⟩ := j2.slice
  clear j2
  replace hB := nextB hB b
  replace ia := ia.below b
  replace ib := ib.below b
  replace imr := imr.below b
  replace ikr := ikr.below b
  clear b
  obtain ⟨b, kx, ky⟩ := pro2 w3 (.slice aox qx capx) (.slice aoy qy capy)
  obtain ⟨Rx, hRx⟩ : ∃ R, R = w3.heap.size := ⟨_, rfl⟩
  have cc0 := kx.cell
  have cc1 := ky.cell
  go_wp2_with fail
  obtain ⟨w4, hw⟩ : ∃ w_ : World, w_ = ((w3.alloc (.cells #[.slice aox qx capx] 25)).alloc (.cells #[.slice aoy qy capy] 25)) := ⟨_, rfl⟩
  rw [← hw] at b kx ky ⊢
  rw [← hRx] at kx ky ⊢
  clear hw hRx cc0 cc1
  replace hB := nextB hB b
  replace ia := ia.below b
  replace ib := ib.below b
  replace imr := imr.below b
  replace ikr := ikr.below b
  replace xx := xx.below b
  replace xy := xy.below b
  clear b
  clear imr ikr ia ib
  obtain ⟨wo, hwo⟩ : ∃ wo : World, wo = w4 := ⟨_, rfl⟩
  rw [← hwo] at hB xx xy kx ky ⊢
  clear hwo
  have cc0 := kx.cell
  have cc1 := ky.cell
  have ltx := kx.lt
  have lty := ky.lt
  go_wp2
  go_region_held3 (fun w' => w'.cell? ⟨Rx, 0, none⟩ = some (.slice aox qx capx) ∧ w'.cell? ⟨Rx + 1, 0, none⟩ = some (.slice aoy qy capy) ∧ Below wo.heap.size wo w')
    (first
      | exact ⟨cc0, cc1, (Below.refl _ _).drew⟩
      | (go_split_ands; exact ⟨by assumption, by assumption, by assumption⟩)
      | (go_split_ands; have hk := nextB (by assumption) bb; exact ⟨(hk.cell (p := ⟨Rx, 0, none⟩) ltx).trans cc0, (hk.cell (p := ⟨Rx + 1, 0, none⟩) lty).trans cc1, hk⟩))
    (first
      | (go_at_call 60; go_split_ands; (first | ((with_reducible refine (String_any (IsNat.of (xx.below (by assumption))) 16384 (by omega) Hm.out).mono ?_); rintro e wq ⟨rfl, bb⟩) | ((with_reducible refine (String_any (IsNat.of (xy.below (by assumption))) 16384 (by omega) Hk.out).mono ?_); rintro e wq ⟨rfl, bb⟩))))
  go_split_ands
  have b : Below wo.heap.size wo wq := by assumption
  obtain ⟨w5, hw⟩ : ∃ w_ : World, w_ = wq := ⟨_, rfl⟩
  rw [← hw] at b ⊢
  clear hw
  replace hB := nextB hB b
  replace xx := xx.below b
  replace xy := xy.below b
  replace kx := kx.below b
  replace ky := ky.below b
  clear b
  have cc0 := kx.cell
  have cc1 := ky.cell
  obtain ⟨b, kl⟩ := blk2 w5 (.slice aox qx capx) (.slice aoy qy capy)
  obtain ⟨Rl, hRl⟩ : ∃ R, R = w5.heap.size := ⟨_, rfl⟩
  have dd0 := cc0
  clear cc0
  have dd1 := cc1
  clear cc1
  have cc0 := (kx.below b).cell
  have cc1 := (ky.below b).cell
  go_wp2_with fail
  obtain ⟨w6, hw⟩ : ∃ w_ : World, w_ = (w5.alloc (.cells #[.slice aox qx capx, .slice aoy qy capy] 25)) := ⟨_, rfl⟩
  have hRle : w.heap.size ≤ Rl := by rw [hRl]; exact hB.size
  rw [← hw] at b kl ⊢
  rw [← hRl] at kl ⊢
  clear hw hRl cc0 cc1 dd0 dd1
  replace hB := nextB hB b
  replace xx := xx.below b
  replace xy := xy.below b
  replace kx := kx.below b
  replace ky := ky.below b
  clear b
  refine (kadd (L := 960) (by omega) (Nu.of ⟨_, rfl, xx⟩ (lt_P2_mono Km.out (show _ ≤ 960 by omega))) (Nu.of ⟨_, rfl, xy⟩ (lt_P2_mono Kk.out (show _ ≤ 960 by omega)))).mono ?_
  rintro e w7 ⟨v_, er1, rfl, ⟨nc, j_, hc⟩, b⟩
  have Knc : Hid (nc < P2 961) := Lib.hid hc
  clear hc
  replace hB := nextB hB b
  replace xx := xx.below b
  replace xy := xy.below b
  replace kx := kx.below b
  replace ky := ky.below b
  replace kl := kl.below b
  clear b
  obtain ⟨aoc, qc, capc, rfl, xc⟩ := j_.slice
  clear j_
  obtain ⟨b, kc⟩ := pro1 w7 (.slice aoc qc capc)
  obtain ⟨Rc, hRc⟩ : ∃ R, R = w7.heap.size := ⟨_, rfl⟩
  have cc0 := (kx.below b).cell
  have cc1 := (ky.below b).cell
  have cc2 := kc.cell
  go_wp2_with fail
  obtain ⟨w8, hw⟩ : ∃ w_ : World, w_ = (w7.alloc (.cells #[.slice aoc qc capc] 25)) := ⟨_, rfl⟩
  rw [← hw] at b kc ⊢
  rw [← hRc] at kc ⊢
  clear hw hRc cc0 cc1 cc2
  replace hB := nextB hB b
  replace xx := xx.below b
  replace xy := xy.below b
  replace kx := kx.below b
  replace ky := ky.below b
  replace kl := kl.below b
  replace xc := xc.below b
  clear b
  refine (kmul (L := 960) (by omega) (Nu.of ⟨_, rfl, xx⟩ (lt_P2_mono Km.out (show _ ≤ 960 by omega))) (Nu.of ⟨_, rfl, xy⟩ (lt_P2_mono Kk.out (show _ ≤ 960 by omega)))).mono ?_
  rintro e w9 ⟨v_, er2, rfl, ⟨nd, j_, hc⟩, b⟩
  have Knd : Hid (nd < P2 1920) := Lib.hid hc
  clear hc
  replace hB := nextB hB b
  replace xx := xx.below b
  replace xy := xy.below b
  replace kx := kx.below b
  replace ky := ky.below b
  replace kl := kl.below b
  replace xc := xc.below b
  replace kc := kc.below b
  clear b
  obtain ⟨aod, qd, capd, rfl, xd⟩ := j_.slice
  clear j_
  obtain ⟨b, kd⟩ := pro1 w9 (.slice aod qd capd)
  obtain ⟨Rd, hRd⟩ : ∃ R, R = w9.heap.size := ⟨_, rfl⟩
  have cc0 := (kx.below b).cell
  have cc1 := (ky.below b).cell
  have cc2 := (kc.below b).cell
  have cc3 := kd.cell
  go_wp2_with fail
  obtain ⟨w10, hw⟩ : ∃ w_ : World, w_ = (w9.alloc (.cells #[.slice aod qd capd] 25)) := ⟨_, rfl⟩
  rw [← hw] at b kd ⊢
  rw [← hRd] at kd ⊢
  clear hw hRd cc0 cc1 cc2 cc3
  replace hB := nextB hB b
  replace xx := xx.below b
  replace xy := xy.below b
  replace kx := kx.below b
  replace ky := ky.below b
  replace kl := kl.below b
  replace xc := xc.below b
  replace kc := kc.below b
  replace xd := xd.below b
  clear b
  refine (ksub (L := 961) (by omega) (Nu.of ⟨_, rfl, xc⟩ (lt_P2_mono Knc.out (show _ ≤ 961 by omega))) (Nu.of ⟨_, rfl, xx⟩ (lt_P2_mono Km.out (show _ ≤ 961 by omega)))).mono ?_
  rintro e w11 ⟨v_, er3, rfl, ⟨ne, j_, hc⟩, b⟩
  have Kne : Hid (ne < P2 961) := Lib.hid hc
  clear hc
  replace hB := nextB hB b
  replace xx := xx.below b
  replace xy := xy.below b
  replace kx := kx.below b
  replace ky := ky.below b
  replace kl := kl.below b
  replace xc := xc.below b
  replace kc := kc.below b
  replace xd := xd.below b
  replace kd := kd.below b
  clear b
  obtain ⟨aoe, qe, cape, rfl, xe⟩ := j_.slice
  clear j_
  obtain ⟨b, ke⟩ := pro1 w11 (.slice aoe qe cape)
  obtain ⟨Re, hRe⟩ : ∃ R, R = w11.heap.size := ⟨_, rfl⟩
  have cc0 := (kx.below b).cell
  have cc1 := (ky.below b).cell
  have cc2 := (kc.below b).cell
  have cc3 := (kd.below b).cell
  have cc4 := ke.cell
  go_wp2_with fail
  obtain ⟨w12, hw⟩ : ∃ w_ : World, w_ = (w11.alloc (.cells #[.slice aoe qe cape] 25)) := ⟨_, rfl⟩
  rw [← hw] at b ke ⊢
  rw [← hRe] at ke ⊢
  clear hw hRe cc0 cc1 cc2 cc3 cc4
  replace hB := nextB hB b
  replace xx := xx.below b
  replace xy := xy.below b
  replace kx := kx.below b
  replace ky := ky.below b
  replace kl := kl.below b
  replace xc := xc.below b
  replace kc := kc.below b
  replace xd := xd.below b
  replace kd := kd.below b
  replace xe := xe.below b
  clear b
  refine (kdiv (L := 1920) (by omega) (Nu.of ⟨_, rfl, xd⟩ (lt_P2_mono Knd.out (show _ ≤ 1920 by omega))) (Nu.of ⟨_, rfl, xc⟩ (lt_P2_mono Knc.out (show _ ≤ 1920 by omega)))).mono ?_
  rintro e w13 ⟨u1, u2, er4, rfl, ⟨nq, j1, hc1⟩, ⟨nr, j2, hc2⟩, b⟩
  have Knq : Hid (nq < P2 1920) := Lib.hid hc1
  have Knr : Hid (nr < P2 1920) := Lib.hid hc2
  clear hc1 hc2
  replace hB := nextB hB b
  replace xx := xx.below b
  replace xy := xy.below b
  replace kx := kx.below b
  replace ky := ky.below b
  replace kl := kl.below b
  replace xc := xc.below b
  replace kc := kc.below b
  replace xd := xd.below b
  replace kd := kd.below b
  replace xe := xe.below b
  replace ke := ke.below b
  clear b
  obtain ⟨aoq, qq, capq, rfl, xq⟩ := j1.slice
  clear j1
  obtain ⟨aor, qr, capr, rfl, xr⟩ := j2.slice
  clear j2
  have hwt : wrap64 (n.tmod 512) = n.tmod 512 := by unfold wrap64; have h1 := Int.tmod_lt_of_pos n (show (0 : Int) < 512 by omega); have h2 := Int.lt_tmod_of_pos n (show (0 : Int) < 512 by omega); omega
  obtain ⟨b, kq, kr⟩ := pro2 w13 (.slice aoq qq capq) (.slice aor qr capr)
  obtain ⟨Rq, hRq⟩ : ∃ R, R = w13.heap.size := ⟨_, rfl⟩
  have cc0 := (kx.below b).cell
  have cc1 := (ky.below b).cell
  have cc2 := (kc.below b).cell
  have cc3 := (kd.below b).cell
  have cc4 := (ke.below b).cell
  have cc5 := kq.cell
  have cc6 := kr.cell
  go_wp2_with fail
  obtain ⟨w14, hw⟩ : ∃ w_ : World, w_ = ((w13.alloc (.cells #[.slice aoq qq capq] 25)).alloc (.cells #[.slice aor qr capr] 25)) := ⟨_, rfl⟩
  rw [← hw] at b kq kr ⊢
  rw [← hRq] at kq kr ⊢
  clear hw hRq cc0 cc1 cc2 cc3 cc4 cc5 cc6
  replace hB := nextB hB b
  replace xx := xx.below b
  replace xy := xy.below b
  replace kx := kx.below b
  replace ky := ky.below b
  replace kl := kl.below b
  replace xc := xc.below b
  replace kc := kc.below b
  replace xd := xd.below b
  replace kd := kd.below b
  replace xe := xe.below b
  replace ke := ke.below b
  replace xq := xq.below b
  replace xr := xr.below b
  clear b
  refine (klsh (L := 960) (by omega) (Nu.of ⟨_, rfl, xx⟩ (lt_P2_mono Km.out (show _ ≤ 960 by omega))) (n.tmod 512) (Int.tmod_lt_of_pos _ (by omega))).mono ?_
  rintro e w15 ⟨v_, er5, rfl, ⟨nu, j_, hc⟩, b⟩
  have Knu : Hid (nu < P2 1472) := Lib.hid hc
  clear hc
  replace hB := nextB hB b
  replace xx := xx.below b
  replace xy := xy.below b
  replace kx := kx.below b
  replace ky := ky.below b
  replace kl := kl.below b
  replace xc := xc.below b
  replace kc := kc.below b
  replace xd := xd.below b
  replace kd := kd.below b
  replace xe := xe.below b
  replace ke := ke.below b
  replace xq := xq.below b
  replace xr := xr.below b
  replace kq := kq.below b
  replace kr := kr.below b
  clear b
  obtain ⟨aou, qu, capu, rfl, xu⟩ := j_.slice
  clear j_
  obtain ⟨b, ku⟩ := pro1 w15 (.slice aou qu capu)
  obtain ⟨Ru, hRu⟩ : ∃ R, R = w15.heap.size := ⟨_, rfl⟩
  have cc0 := (kx.below b).cell
  have cc1 := (ky.below b).cell
  have cc2 := (kc.below b).cell
  have cc3 := (kd.below b).cell
  have cc4 := (ke.below b).cell
  have cc5 := (kq.below b).cell
  have cc6 := (kr.below b).cell
  have cc7 := ku.cell
  go_wp2_with fail
  obtain ⟨w16, hw⟩ : ∃ w_ : World, w_ = (w15.alloc (.cells #[.slice aou qu capu] 25)) := ⟨_, rfl⟩
  rw [← hw] at b ku ⊢
  rw [← hRu] at ku ⊢
  clear hw hRu cc0 cc1 cc2 cc3 cc4 cc5 cc6 cc7
  replace hB := nextB hB b
  replace xx := xx.below b
  replace xy := xy.below b
  replace kx := kx.below b
  replace ky := ky.below b
  replace kl := kl.below b
  replace xc := xc.below b
  replace kc := kc.below b
  replace xd := xd.below b
  replace kd := kd.below b
  replace xe := xe.below b
  replace ke := ke.below b
  replace xq := xq.below b
  replace xr := xr.below b
  replace kq := kq.below b
  replace kr := kr.below b
  replace xu := xu.below b
  clear b
  refine (krsh (L := 960) (by omega) (Nu.of ⟨_, rfl, xx⟩ (lt_P2_mono Km.out (show _ ≤ 960 by omega))) (n.tmod 512) (Int.tmod_lt_of_pos _ (by omega))).mono ?_
  rintro e w17 ⟨v_, er6, rfl, ⟨nv, j_, hc⟩, b⟩
  have Knv : Hid (nv < P2 960) := Lib.hid hc
  clear hc
  replace hB := nextB hB b
  replace xx := xx.below b
  replace xy := xy.below b
  replace kx := kx.below b
  replace ky := ky.below b
  replace kl := kl.below b
  replace xc := xc.below b
  replace kc := kc.below b
  replace xd := xd.below b
  replace kd := kd.below b
  replace xe := xe.below b
  replace ke := ke.below b
  replace xq := xq.below b
  replace xr := xr.below b
  replace kq := kq.below b
  replace kr := kr.below b
  replace xu := xu.below b
  replace ku := ku.below b
  clear b
  obtain ⟨aov, qv, capv, rfl, xv⟩ := j_.slice
  clear j_
  obtain ⟨b, kv⟩ := pro1 w17 (.slice aov qv capv)
  obtain ⟨Rv, hRv⟩ : ∃ R, R = w17.heap.size := ⟨_, rfl⟩
  have cc0 := (kx.below b).cell
  have cc1 := (ky.below b).cell
  have cc2 := (kc.below b).cell
  have cc3 := (kd.below b).cell
  have cc4 := (ke.below b).cell
  have cc5 := (kq.below b).cell
  have cc6 := (kr.below b).cell
  have cc7 := (ku.below b).cell
  have cc8 := kv.cell
  go_wp2_with fail
  obtain ⟨w18, hw⟩ : ∃ w_ : World, w_ = (w17.alloc (.cells #[.slice aov qv capv] 25)) := ⟨_, rfl⟩
  rw [← hw] at b kv ⊢
  rw [← hRv] at kv ⊢
  clear hw hRv cc0 cc1 cc2 cc3 cc4 cc5 cc6 cc7 cc8
  replace hB := nextB hB b
  replace xx := xx.below b
  replace xy := xy.below b
  replace kx := kx.below b
  replace ky := ky.below b
  replace kl := kl.below b
  replace xc := xc.below b
  replace kc := kc.below b
  replace xd := xd.below b
  replace kd := kd.below b
  replace xe := xe.below b
  replace ke := ke.below b
  replace xq := xq.below b
  replace xr := xr.below b
  replace kq := kq.below b
  replace kr := kr.below b
  replace xu := xu.below b
  replace ku := ku.below b
  replace xv := xv.below b
  clear b
  obtain ⟨wo, hwo⟩ : ∃ wo : World, wo = w18 := ⟨_, rfl⟩
  rw [← hwo] at hB xx xy kx ky kl xc kc xd kd xe ke xq xr kq kr xu ku xv kv ⊢
  clear hwo
  have hdr : Below wo.heap.size wo wo.drew := (Below.refl _ _).drew
  replace hB := nextB hB hdr
  replace xx := xx.below hdr
  replace xy := xy.below hdr
  replace kx := kx.below hdr
  replace ky := ky.below hdr
  replace kl := kl.below hdr
  replace xc := xc.below hdr
  replace kc := kc.below hdr
  replace xd := xd.below hdr
  replace kd := kd.below hdr
  replace xe := xe.below hdr
  replace ke := ke.below hdr
  replace xq := xq.below hdr
  replace xr := xr.below hdr
  replace kq := kq.below hdr
  replace kr := kr.below hdr
  replace xu := xu.below hdr
  replace ku := ku.below hdr
  replace xv := xv.below hdr
  replace kv := kv.below hdr
  clear hdr
  obtain ⟨i25, hi1, hi2, hi3, hi4⟩ := info25
  have cc0 := kx.cell
  have cc1 := ky.cell
  have cc2 := kc.cell
  have cc3 := kd.cell
  have cc4 := ke.cell
  have cc5 := kq.cell
  have cc6 := kr.cell
  have cc7 := ku.cell
  have cc8 := kv.cell
  go_wp2
  go_region_held3 (fun w' => w'.cell? ⟨Rx, 0, none⟩ = some (.slice aox qx capx) ∧ w'.cell? ⟨Rx + 1, 0, none⟩ = some (.slice aoy qy capy) ∧ w'.cell? ⟨Rc, 0, none⟩ = some (.slice aoc qc capc) ∧ w'.cell? ⟨Rd, 0, none⟩ = some (.slice aod qd capd) ∧ w'.cell? ⟨Re, 0, none⟩ = some (.slice aoe qe cape) ∧ w'.cell? ⟨Rq, 0, none⟩ = some (.slice aoq qq capq) ∧ w'.cell? ⟨Rq + 1, 0, none⟩ = some (.slice aor qr capr) ∧ w'.cell? ⟨Ru, 0, none⟩ = some (.slice aou qu capu) ∧ w'.cell? ⟨Rv, 0, none⟩ = some (.slice aov qv capv) ∧ Below w.heap.size w w')
    (first
      | (with_reducible exact ⟨cc0, cc1, cc2, cc3, cc4, cc5, cc6, cc7, cc8, hB⟩)
      | (go_split_ands; with_reducible exact ⟨by assumption, by assumption, by assumption, by assumption, by assumption, by assumption, by assumption, by assumption, by assumption, by assumption⟩)
      | (go_split_ands; with_reducible exact ⟨kx.cell, ky.cell, kc.cell, kd.cell, ke.cell, kq.cell, kr.cell, ku.cell, kv.cell, hB⟩)
      | (go_split_ands; with_reducible exact ⟨(kx.below (below_alloc _ _)).cell, (ky.below (below_alloc _ _)).cell, (kc.below (below_alloc _ _)).cell, (kd.below (below_alloc _ _)).cell, (ke.below (below_alloc _ _)).cell, (kq.below (below_alloc _ _)).cell, (kr.below (below_alloc _ _)).cell, (ku.below (below_alloc _ _)).cell, (kv.below (below_alloc _ _)).cell, nextB hB (below_alloc _ _)⟩)
      | (go_split_ands; with_reducible exact ⟨k1x.cell, k1y.cell, k1c.cell, k1d.cell, k1e.cell, k1q.cell, k1r.cell, k1u.cell, k1v.cell, hB1⟩))
    (first
      | (go_at_call 71; go_split_ands; (with_reducible refine (ksqrt (L := 960) (by omega) (Nu.of (IsNat.of xx) Km.out)).mono ?_); rintro e wq ⟨v_, rfl, ⟨ns, js, hs_⟩, bb⟩; obtain ⟨aos, qs, caps, rfl, xs⟩ := js.slice; have Kns := Lib.hid hs_; replace hB := nextB hB bb; replace xx := xx.below bb; replace xy := xy.below bb; replace kx := kx.below bb; replace ky := ky.below bb; replace kl := kl.below bb; replace xc := xc.below bb; replace kc := kc.below bb; replace xd := xd.below bb; replace kd := kd.below bb; replace xe := xe.below bb; replace ke := ke.below bb; replace xq := xq.below bb; replace xr := xr.below bb; replace kq := kq.below bb; replace kr := kr.below bb; replace xu := xu.below bb; replace ku := ku.below bb; replace xv := xv.below bb; replace kv := kv.below bb)
      | (go_at_call 42; go_split_ands; (with_reducible refine (kgcd (L := 960) (by omega) (Nu.of (IsNat.of xx) Km.out) (Nu.of (IsNat.of xy) Kk.out)).mono ?_); rintro e wr ⟨v_, rfl, ⟨ng, jg, hg_⟩, bb⟩; obtain ⟨aog, qg, capg, rfl, xg⟩ := jg.slice; have Kng := Lib.hid hg_; replace hB := nextB hB bb; replace xs := xs.below bb; replace xx := xx.below bb; replace xy := xy.below bb; replace kx := kx.below bb; replace ky := ky.below bb; replace kl := kl.below bb; replace xc := xc.below bb; replace kc := kc.below bb; replace xd := xd.below bb; replace kd := kd.below bb; replace xe := xe.below bb; replace ke := ke.below bb; replace xq := xq.below bb; replace xr := xr.below bb; replace kq := kq.below bb; replace kr := kr.below bb; replace xu := xu.below bb; replace ku := ku.below bb; replace xv := xv.below bb; replace kv := kv.below bb)
      | (refine step_append_lies _ rfl _ _ 99 rfl Rl 25 i25 (.agg #[.slice none 0 0]) 1 24 Try.underlying99 hi1 hi2 hi3 hi4 rfl (by omega) (.slice (some ⟨Rl, 0, none⟩) 2 2) 2 [.slice aox qx capx, .slice aoy qy capy] rfl (row2 (kl.below (below_alloc _ _))) ⟨wr.heap.size, 0, none⟩ 9 9 [.slice aoc qc capc, .slice aod qd capd, .slice aoe qe cape, .slice aoq qq capq, .slice aor qr capr, .slice aou qu capu, .slice aov qv capv, .slice aos qs caps, .slice aog qg capg] rfl rfl (World.news_of_block (heap_alloc_new wr _)) (by simp [Value.oneCell']) (by omega) (by unfold maxLen; omega) (by omega) (Nat.le_of_lt (kl.below (below_alloc wr _)).lt) (wr.heap.size + 1) (by simp) ?_; intro gL capL w1 hown hgrow hor hlt; have k1x := (kx.below (below_alloc wr _)).grown (kl.below (below_alloc wr _)) hgrow; have k1y := (ky.below (below_alloc wr _)).grown (kl.below (below_alloc wr _)) hgrow; have k1c := (kc.below (below_alloc wr _)).grown (kl.below (below_alloc wr _)) hgrow; have k1d := (kd.below (below_alloc wr _)).grown (kl.below (below_alloc wr _)) hgrow; have k1e := (ke.below (below_alloc wr _)).grown (kl.below (below_alloc wr _)) hgrow; have k1q := (kq.below (below_alloc wr _)).grown (kl.below (below_alloc wr _)) hgrow; have k1r := (kr.below (below_alloc wr _)).grown (kl.below (below_alloc wr _)) hgrow; have k1u := (ku.below (below_alloc wr _)).grown (kl.below (below_alloc wr _)) hgrow; have k1v := (kv.below (below_alloc wr _)).grown (kl.below (below_alloc wr _)) hgrow; have hB1 := below_grown (nextB hB (below_alloc wr _)) hgrow hRle (by have := hB.size; simp; omega)))
  go_split_ands
  have hal := below_alloc wr (.cells #[.slice aoc qc capc, .slice aod qd capd, .slice aoe qe cape, .slice aoq qq capq, .slice aor qr capr, .slice aou qu capu, .slice aov qv capv, .slice aos qs caps, .slice aog qg capg] 25)
  replace xx := ((xx.below hal).grown (kl.below hal) NoInt.two hgrow)
  replace xy := ((xy.below hal).grown (kl.below hal) NoInt.two hgrow)
  replace xc := ((xc.below hal).grown (kl.below hal) NoInt.two hgrow)
  replace xd := ((xd.below hal).grown (kl.below hal) NoInt.two hgrow)
  replace xe := ((xe.below hal).grown (kl.below hal) NoInt.two hgrow)
  replace xq := ((xq.below hal).grown (kl.below hal) NoInt.two hgrow)
  replace xr := ((xr.below hal).grown (kl.below hal) NoInt.two hgrow)
  replace xu := ((xu.below hal).grown (kl.below hal) NoInt.two hgrow)
  replace xv := ((xv.below hal).grown (kl.below hal) NoInt.two hgrow)
  replace xs := ((xs.below hal).grown (kl.below hal) NoInt.two hgrow)
  replace xg := ((xg.below hal).grown (kl.below hal) NoInt.two hgrow)
  have hB := hB1
  have hel0 : EL w1 gL (fun j => [m, k, nc, nd, ne, nq, nr, nu, nv, ns, ng].getD j 0) := by
    intro j hj
    rcases (show j = 0 ∨ j = 1 ∨ j = 2 ∨ j = 3 ∨ j = 4 ∨ j = 5 ∨ j = 6 ∨ j = 7 ∨ j = 8 ∨ j = 9 ∨ j = 10 by omega) with rfl | rfl | rfl | rfl | rfl | rfl | rfl | rfl | rfl | rfl | rfl
    · exact ⟨_, _, _, row_cells hown (j := 0) rfl, xx, lt_P2_mono Km.out (show _ ≤ 2000 by omega)⟩
    · exact ⟨_, _, _, row_cells hown (j := 1) rfl, xy, lt_P2_mono Kk.out (show _ ≤ 2000 by omega)⟩
    · exact ⟨_, _, _, row_cells hown (j := 2) rfl, xc, lt_P2_mono Knc.out (show _ ≤ 2000 by omega)⟩
    · exact ⟨_, _, _, row_cells hown (j := 3) rfl, xd, lt_P2_mono Knd.out (show _ ≤ 2000 by omega)⟩
    · exact ⟨_, _, _, row_cells hown (j := 4) rfl, xe, lt_P2_mono Kne.out (show _ ≤ 2000 by omega)⟩
    · exact ⟨_, _, _, row_cells hown (j := 5) rfl, xq, lt_P2_mono Knq.out (show _ ≤ 2000 by omega)⟩
    · exact ⟨_, _, _, row_cells hown (j := 6) rfl, xr, lt_P2_mono Knr.out (show _ ≤ 2000 by omega)⟩
    · exact ⟨_, _, _, row_cells hown (j := 7) rfl, xu, lt_P2_mono Knu.out (show _ ≤ 2000 by omega)⟩
    · exact ⟨_, _, _, row_cells hown (j := 8) rfl, xv, lt_P2_mono Knv.out (show _ ≤ 2000 by omega)⟩
    · exact ⟨_, _, _, row_cells hown (j := 9) rfl, xs, lt_P2_mono Kns.out (show _ ≤ 2000 by omega)⟩
    · exact ⟨_, _, _, row_cells hown (j := 10) rfl, xg, lt_P2_mono Kng.out (show _ ≤ 2000 by omega)⟩
  generalize (fun j => [m, k, nc, nd, ne, nq, nr, nu, nv, ns, ng].getD j 0) = nn at hel0
  have hel : EL w1 gL nn := hel0
  clear hel0 hown hor hal hgrow kl hRle
  clear cc0 cc1 cc2 cc3 cc4 cc5 cc6 cc7 cc8
  obtain ⟨w11, hw⟩ : ∃ w_ : World, w_ = w1 := ⟨_, rfl⟩
  rw [← hw] at hB xx xy k1x k1y hel hlt ⊢
  clear hw
  have kx := k1x
  have ky := k1y
  clear k1x k1y
  obtain ⟨i9, hj1, hj2, hj3, hj4⟩ := info9
  go_wp2
  go_loopg [26, 28, 106] 11 (fun gg tx bx i wr => ∃ j : Nat, j + gg = 11 ∧ i = .int .i64 j ∧ TRow wr w11.heap.size tx j nn ∧ Below w11.heap.size w11 wr)
  case atStart => exact ⟨0, rfl, rfl, TRow.nil _ _ _, Below.refl _ _⟩
  case round =>
    obtain ⟨j, hjg, rfl, htr, hb⟩ := hrel
    by_cases hg0 : gk = 0
    · obtain rfl : j = 11 := by omega
      obtain ⟨gT, capT, rfl, htl⟩ := htr.open
      clear hjg hg0 htr
      have b := hb
      clear hb
      replace hB := nextB hB b
      replace xx := xx.below b
      replace xy := xy.below b
      replace kx := kx.below b
      replace ky := ky.below b
      replace hel := hel.below b
      clear b
      obtain ⟨w30, hw⟩ : ∃ w_ : World, w_ = wr := ⟨_, rfl⟩
      rw [← hw] at hB xx xy kx ky hel htl ⊢
      clear hw
      go_wp2
      go_loopg [29, 30, 31] 10 (fun gg i fb er wr => ∃ j : Nat, j + gg = 10 ∧ i = .int .i64 j ∧ Below w30.heap.size w30 wr)
      case atStart => exact ⟨0, rfl, rfl, Below.refl _ _⟩
      case round =>
        obtain ⟨j, hjg, rfl, hb⟩ := hrel
        by_cases hg0 : gk = 0
        · obtain rfl : j = 10 := by omega
          clear hjg hg0
          have b := hb
          clear hb
          replace hB := nextB hB b
          replace xx := xx.below b
          replace xy := xy.below b
          replace kx := kx.below b
          replace ky := ky.below b
          replace hel := hel.below b
          replace htl := htl.below b
          clear b
          obtain ⟨w40, hw⟩ : ∃ w_ : World, w_ = wr := ⟨_, rfl⟩
          rw [← hw] at hB xx xy kx ky hel htl ⊢
          clear hw
          go_wp2
          go_loopg [32, 33, 222] 11 (fun gg i bx ix wr => ∃ j : Nat, j + gg = 11 ∧ ix = .int .i64 j ∧ Below w40.heap.size w40 wr)
          case atStart => exact ⟨0, rfl, rfl, Below.refl _ _⟩
          case round =>
            obtain ⟨j, hjg, rfl, hb⟩ := hrel
            by_cases hg0 : gk = 0
            · obtain rfl : j = 11 := by omega
              clear hjg hg0
              have b := hb
              clear hb
              replace hB := nextB hB b
              replace xx := xx.below b
              replace xy := xy.below b
              replace kx := kx.below b
              replace ky := ky.below b
              replace hel := hel.below b
              replace htl := htl.below b
              clear b
              obtain ⟨w50, hw⟩ : ∃ w_ : World, w_ = wr := ⟨_, rfl⟩
              rw [← hw] at hB xx xy kx ky hel htl ⊢
              clear hw
              have cc0 := kx.cell
              have cc1 := ky.cell
              go_wp2_with fail
              clear cc0 cc1
              refine (String_any (IsNat.of xx) 16384 (by omega) Hm.out).mono ?_
              rintro e w19 ⟨rfl, b⟩
              replace hB := nextB hB b
              replace xx := xx.below b
              replace xy := xy.below b
              replace kx := kx.below b
              replace ky := ky.below b
              replace hel := hel.below b
              replace htl := htl.below b
              clear b
              have cc0 := kx.cell
              have cc1 := ky.cell
              go_wp2_with fail
              clear cc0 cc1
              refine (String_any (IsNat.of xy) 16384 (by omega) Hk.out).mono ?_
              rintro e w20 ⟨rfl, b⟩
              replace hB := nextB hB b
              replace xx := xx.below b
              replace xy := xy.below b
              replace kx := kx.below b
              replace ky := ky.below b
              replace hel := hel.below b
              replace htl := htl.below b
              clear b
              have cc0 := kx.cell
              have cc1 := ky.cell
              go_wp2_with fail
              clear cc0 cc1
              refine (awake_any _).mono ?_
              rintro e w21 ⟨rfl, b⟩
              replace hB := nextB hB b
              replace xx := xx.below b
              replace xy := xy.below b
              replace kx := kx.below b
              replace ky := ky.below b
              replace hel := hel.below b
              replace htl := htl.below b
              clear b
              go_wp2
              go_ret
              exact ⟨rfl, hB⟩
            · have hj11 : j < 11 := by omega
              obtain ⟨aoj, kj, capj, hcj, ij, hnj⟩ := (hel.below hb) j hj11
              have htj := (htl.below hb) j hj11
              have HNJ := Lib.hid hnj
              have HJG := Lib.hid (show j + 1 + (gk - 1) = 11 by omega)
              have HGM := Lib.hid (show gk - 1 < gk by omega)
              clear hnj hjg
              obtain ⟨b, kz⟩ := pro1 wr (.slice aoj kj capj)
              obtain ⟨Rz, hRz⟩ : ∃ R, R = wr.heap.size := ⟨_, rfl⟩
              obtain ⟨wz, hw⟩ : ∃ w_ : World, w_ = wr.alloc (.cells #[.slice aoj kj capj] 25) := ⟨_, rfl⟩
              have htz : wz.cell? ⟨gT, j, none⟩ = some (.string (txt (nn j))) := by rw [hw]; exact (b.cell (p := ⟨gT, j, none⟩) (World.block_lt_of_cell? wr _ htj)).trans htj
              go_wp2
              rw [← hw] at b kz ⊢
              rw [← hRz] at kz ⊢
              clear hw hRz
              replace ij := ij.below b
              replace hb := nextB hb b
              clear b hcj htj
              have cz := kz.cell
              have lz := kz.lt
              have lt_ := World.block_lt_of_cell? wz _ htz
              go_region_held3 (fun w' => w'.cell? ⟨Rz, 0, none⟩ = some (.slice aoj kj capj) ∧ w'.cell? ⟨gT, j, none⟩ = some (.string (txt (nn j))) ∧ Below wz.heap.size wz w')
                (first
                  | exact ⟨cz, htz, (Below.refl _ _).drew⟩
                  | (go_split_ands; exact ⟨by assumption, by assumption, by assumption⟩)
                  | (go_split_ands; have hk := nextB (by assumption) bb; exact ⟨(hk.cell (p := ⟨Rz, 0, none⟩) lz).trans cz, (hk.cell (p := ⟨gT, j, none⟩) lt_).trans htz, hk⟩))
                (first
                  | (go_at_call 60; go_split_ands; (with_reducible refine (String_any (IsNat.of (ij.below (by assumption))) 2000 (by omega) HNJ.out).mono ?_); rintro e wq ⟨rfl, bb⟩))
              go_split_ands
              have b : Below wz.heap.size wz wq := by assumption
              replace hb := nextB hb b
              clear b
              go_wp2
              go_roundg (gk - 1)
              case measure => exact HGM.out
              case rel => exact ⟨j + 1, HJG.out, by go_num, hb⟩
        · have F := jf_of hjg hg0
          have hjA := F.hA
          have hjB := F.hB
          have HJG := Lib.hid F.g
          have HGM := Lib.hid F.m
          clear hjg kx ky xx xy htl hg0
          have hi0 := F.i0
          have hi1 := F.i1
          have hi2 := F.i2
          have hi3 := F.i3
          have hw1 := F.w1
          have hw2 := F.w2
          have HJ512 := Lib.hid F.l
          clear F
          obtain ⟨aoa, ka, capa, hca, ia, hna⟩ := (hel.below hb) j hjA
          obtain ⟨aob, kb, capb, hcb, ib, hnb⟩ := (hel.below hb) (j + 1) hjB
          have HNa := Lib.hid hna
          have HNb := Lib.hid hnb
          clear hna hnb hjA hjB
          have la : gL < wr.heap.size := World.block_lt_of_cell? wr _ hca
          have lb := la
          go_wp2
          go_region_held3 (fun w' => w'.cell? ⟨gL, j, none⟩ = some (.slice aoa ka capa) ∧ w'.cell? ⟨gL, j + 1, none⟩ = some (.slice aob kb capb) ∧ Below wr.heap.size wr w')
            (first
              | exact ⟨hca, hcb, (Below.refl _ _).drew⟩
              | (go_split_ands; exact ⟨by assumption, by assumption, by assumption⟩)
              | (go_split_ands; have hk := nextB (by assumption) bb; exact ⟨(hk.cell (p := ⟨gL, j, none⟩) la).trans hca, (hk.cell (p := ⟨gL, j + 1, none⟩) lb).trans hcb, hk⟩))
            (first
              | (go_at_call 44; go_split_ands; (with_reducible refine (kadd (L := 2000) (by omega) (Nu.of (IsNat.of (ia.below (by assumption))) HNa.out) (Nu.of (IsNat.of (ib.below (by assumption))) HNb.out)).mono ?_); rintro e wq ⟨v_, er_, rfl, -, bb⟩))
          go_split_ands
          have b : Below wr.heap.size wr wq := by assumption
          obtain ⟨wv1, hw_⟩ : ∃ w_ : World, w_ = wq := ⟨_, rfl⟩
          rw [← hw_] at b ⊢
          clear hw_
          replace hca := (b.cell (p := ⟨gL, j, none⟩) la).trans hca
          replace hcb := (b.cell (p := ⟨gL, j + 1, none⟩) lb).trans hcb
          replace ia := ia.below b
          replace ib := ib.below b
          replace hb := nextB hb b
          replace la := Nat.lt_of_lt_of_le la b.size
          replace lb := la
          clear b
          go_wp2
          go_region_held3 (fun w' => w'.cell? ⟨gL, j, none⟩ = some (.slice aoa ka capa) ∧ w'.cell? ⟨gL, j + 1, none⟩ = some (.slice aob kb capb) ∧ Below wv1.heap.size wv1 w')
            (first
              | exact ⟨hca, hcb, (Below.refl _ _).drew⟩
              | (go_split_ands; exact ⟨by assumption, by assumption, by assumption⟩)
              | (go_split_ands; have hk := nextB (by assumption) bb; exact ⟨(hk.cell (p := ⟨gL, j, none⟩) la).trans hca, (hk.cell (p := ⟨gL, j + 1, none⟩) lb).trans hcb, hk⟩))
            (first
              | (go_at_call 54; go_split_ands; (with_reducible refine (ksub (L := 2000) (by omega) (Nu.of (IsNat.of (ia.below (by assumption))) HNa.out) (Nu.of (IsNat.of (ib.below (by assumption))) HNb.out)).mono ?_); rintro e wq ⟨v_, er_, rfl, -, bb⟩))
          go_split_ands
          have b : Below wv1.heap.size wv1 wq := by assumption
          obtain ⟨wv2, hw_⟩ : ∃ w_ : World, w_ = wq := ⟨_, rfl⟩
          rw [← hw_] at b ⊢
          clear hw_
          replace hca := (b.cell (p := ⟨gL, j, none⟩) la).trans hca
          replace hcb := (b.cell (p := ⟨gL, j + 1, none⟩) lb).trans hcb
          replace ia := ia.below b
          replace ib := ib.below b
          replace hb := nextB hb b
          replace la := Nat.lt_of_lt_of_le la b.size
          replace lb := la
          clear b
          go_wp2
          go_region_held3 (fun w' => w'.cell? ⟨gL, j, none⟩ = some (.slice aoa ka capa) ∧ w'.cell? ⟨gL, j + 1, none⟩ = some (.slice aob kb capb) ∧ Below wv2.heap.size wv2 w')
            (first
              | exact ⟨hca, hcb, (Below.refl _ _).drew⟩
              | (go_split_ands; exact ⟨by assumption, by assumption, by assumption⟩)
              | (go_split_ands; have hk := nextB (by assumption) bb; exact ⟨(hk.cell (p := ⟨gL, j, none⟩) la).trans hca, (hk.cell (p := ⟨gL, j + 1, none⟩) lb).trans hcb, hk⟩))
            (first
              | (go_at_call 54; go_split_ands; (with_reducible refine (ksub (L := 2000) (by omega) (Nu.of (IsNat.of (ib.below (by assumption))) HNb.out) (Nu.of (IsNat.of (ia.below (by assumption))) HNa.out)).mono ?_); rintro e wq ⟨v_, er_, rfl, -, bb⟩))
          go_split_ands
          have b : Below wv2.heap.size wv2 wq := by assumption
          obtain ⟨wv3, hw_⟩ : ∃ w_ : World, w_ = wq := ⟨_, rfl⟩
          rw [← hw_] at b ⊢
          clear hw_
          replace hca := (b.cell (p := ⟨gL, j, none⟩) la).trans hca
          replace hcb := (b.cell (p := ⟨gL, j + 1, none⟩) lb).trans hcb
          replace ia := ia.below b
          replace ib := ib.below b
          replace hb := nextB hb b
          replace la := Nat.lt_of_lt_of_le la b.size
          replace lb := la
          clear b
          go_wp2
          go_region_held3 (fun w' => w'.cell? ⟨gL, j, none⟩ = some (.slice aoa ka capa) ∧ w'.cell? ⟨gL, j + 1, none⟩ = some (.slice aob kb capb) ∧ Below wv3.heap.size wv3 w')
            (first
              | exact ⟨hca, hcb, (Below.refl _ _).drew⟩
              | (go_split_ands; exact ⟨by assumption, by assumption, by assumption⟩)
              | (go_split_ands; have hk := nextB (by assumption) bb; exact ⟨(hk.cell (p := ⟨gL, j, none⟩) la).trans hca, (hk.cell (p := ⟨gL, j + 1, none⟩) lb).trans hcb, hk⟩))
            (first
              | (go_at_call 37; go_split_ands; (with_reducible refine (kmul (L := 2000) (by omega) (Nu.of (IsNat.of (ia.below (by assumption))) HNa.out) (Nu.of (IsNat.of (ib.below (by assumption))) HNb.out)).mono ?_); rintro e wq ⟨v_, er_, rfl, -, bb⟩))
          go_split_ands
          have b : Below wv3.heap.size wv3 wq := by assumption
          obtain ⟨wv4, hw_⟩ : ∃ w_ : World, w_ = wq := ⟨_, rfl⟩
          rw [← hw_] at b ⊢
          clear hw_
          replace hca := (b.cell (p := ⟨gL, j, none⟩) la).trans hca
          replace hcb := (b.cell (p := ⟨gL, j + 1, none⟩) lb).trans hcb
          replace ia := ia.below b
          replace ib := ib.below b
          replace hb := nextB hb b
          replace la := Nat.lt_of_lt_of_le la b.size
          replace lb := la
          clear b
          go_wp2
          go_region_held3 (fun w' => w'.cell? ⟨gL, j, none⟩ = some (.slice aoa ka capa) ∧ w'.cell? ⟨gL, j + 1, none⟩ = some (.slice aob kb capb) ∧ Below wv4.heap.size wv4 w')
            (first
              | exact ⟨hca, hcb, (Below.refl _ _).drew⟩
              | (go_split_ands; exact ⟨by assumption, by assumption, by assumption⟩)
              | (go_split_ands; have hk := nextB (by assumption) bb; exact ⟨(hk.cell (p := ⟨gL, j, none⟩) la).trans hca, (hk.cell (p := ⟨gL, j + 1, none⟩) lb).trans hcb, hk⟩))
            (first
              | (go_at_call 58; go_split_ands; (with_reducible refine (kdiv (L := 2000) (by omega) (Nu.of (IsNat.of (ia.below (by assumption))) HNa.out) (Nu.of (IsNat.of (ib.below (by assumption))) HNb.out)).mono ?_); rintro e wq ⟨u_, v_, er_, rfl, -, -, bb⟩))
          go_split_ands
          have b : Below wv4.heap.size wv4 wq := by assumption
          obtain ⟨wv5, hw_⟩ : ∃ w_ : World, w_ = wq := ⟨_, rfl⟩
          rw [← hw_] at b ⊢
          clear hw_
          replace hca := (b.cell (p := ⟨gL, j, none⟩) la).trans hca
          replace hcb := (b.cell (p := ⟨gL, j + 1, none⟩) lb).trans hcb
          replace ia := ia.below b
          replace ib := ib.below b
          replace hb := nextB hb b
          replace la := Nat.lt_of_lt_of_le la b.size
          replace lb := la
          clear b
          go_wp2_with fail
          refine (klsh (L := 2000) (by omega) (Nu.of (IsNat.of ia) HNa.out) (j : Int) HJ512.out).mono ?_
          rintro e wq ⟨v_, er_, rfl, -, b⟩
          obtain ⟨wv6, hw_⟩ : ∃ w_ : World, w_ = wq := ⟨_, rfl⟩
          rw [← hw_] at b ⊢
          clear hw_
          replace hca := (b.cell (p := ⟨gL, j, none⟩) la).trans hca
          replace hcb := (b.cell (p := ⟨gL, j + 1, none⟩) lb).trans hcb
          replace ia := ia.below b
          replace ib := ib.below b
          replace hb := nextB hb b
          replace la := Nat.lt_of_lt_of_le la b.size
          replace lb := la
          clear b
          go_wp2_with fail
          refine (krsh (L := 2000) (by omega) (Nu.of (IsNat.of ia) HNa.out) (j : Int) HJ512.out).mono ?_
          rintro e wq ⟨v_, er_, rfl, -, b⟩
          obtain ⟨wv7, hw_⟩ : ∃ w_ : World, w_ = wq := ⟨_, rfl⟩
          rw [← hw_] at b ⊢
          clear hw_
          replace hca := (b.cell (p := ⟨gL, j, none⟩) la).trans hca
          replace hcb := (b.cell (p := ⟨gL, j + 1, none⟩) lb).trans hcb
          replace ia := ia.below b
          replace ib := ib.below b
          replace hb := nextB hb b
          replace la := Nat.lt_of_lt_of_le la b.size
          replace lb := la
          clear b
          go_wp2
          go_region_held3 (fun w' => w'.cell? ⟨gL, j, none⟩ = some (.slice aoa ka capa) ∧ w'.cell? ⟨gL, j + 1, none⟩ = some (.slice aob kb capb) ∧ Below wv7.heap.size wv7 w')
            (first
              | exact ⟨hca, hcb, (Below.refl _ _).drew⟩
              | (go_split_ands; exact ⟨by assumption, by assumption, by assumption⟩)
              | (go_split_ands; have hk := nextB (by assumption) bb; exact ⟨(hk.cell (p := ⟨gL, j, none⟩) la).trans hca, (hk.cell (p := ⟨gL, j + 1, none⟩) lb).trans hcb, hk⟩))
            (first
              | (go_at_call 42; go_split_ands; (with_reducible refine (kgcd (L := 2000) (by omega) (Nu.of (IsNat.of (ia.below (by assumption))) HNa.out) (Nu.of (IsNat.of (ib.below (by assumption))) HNb.out)).mono ?_); rintro e wq ⟨v_, rfl, -, bb⟩))
          go_split_ands
          have b : Below wv7.heap.size wv7 wq := by assumption
          obtain ⟨wv8, hw_⟩ : ∃ w_ : World, w_ = wq := ⟨_, rfl⟩
          rw [← hw_] at b ⊢
          clear hw_
          replace hca := (b.cell (p := ⟨gL, j, none⟩) la).trans hca
          replace hcb := (b.cell (p := ⟨gL, j + 1, none⟩) lb).trans hcb
          replace ia := ia.below b
          replace ib := ib.below b
          replace hb := nextB hb b
          replace la := Nat.lt_of_lt_of_le la b.size
          replace lb := la
          clear b
          go_upto_region 28 with fail
          go_cut [30, 31] (fun x y wx => FR wv8 wx x)
          case first =>
            go_region_held3 (fun w' => w'.cell? ⟨gL, j, none⟩ = some (.slice aoa ka capa) ∧ w'.cell? ⟨gL, j + 1, none⟩ = some (.slice aob kb capb) ∧ Below wv8.heap.size wv8 w')
              (first
                | (with_reducible exact ⟨hca, hcb, (Below.refl _ _).drew⟩)
                | (go_split_ands; with_reducible exact ⟨by assumption, by assumption, by assumption⟩)
                | (go_split_ands; have hk := D1; with_reducible exact ⟨(hk.cell (p := ⟨gL, j, none⟩) la).trans hca, (hk.cell (p := ⟨gL, j + 1, none⟩) lb).trans hcb, hk⟩)
                | (go_split_ands; (with_reducible refine el_keep (wo := wv8) ?_ la lb hca hcb); (repeat (first | (with_reducible refine Below.setCell ?_ ?_ _) | (with_reducible refine Below.alloc ?_ ?_ _) | (with_reducible apply Below.drew) | (with_reducible assumption) | (with_reducible exact Below.refl _ _) | omega | (simp <;> omega)))))
              (first
                | (go_at_call 46; go_split_ands; (with_reducible refine (kfrac (L := 2000) (by omega) (by omega) (Nu.of (IsNat.of (ia.below (by assumption))) HNa.out) (Nu.of (IsNat.of (ib.below (by assumption))) HNb.out)).mono ?_); rintro e wq ⟨v_, er_, rfl, jf, bb⟩; obtain ⟨fn, fd, jf1, jf2⟩ := id jf; obtain ⟨ao1, k1, cap1, ao2, k2, cap2, rfl, -, -, -⟩ := id jf1.slice; have D1 := nextB (show Below wv8.heap.size wv8 _ by assumption) bb; have y1 := D1.size; (first | (with_reducible have bx1 := box1 bb) | (with_reducible have bx1 := box1d bb) | skip); (try have ce1 := bx1.cell0); (try have ch1 := bx1.cell1); (try have cm1 := bx1.free0); (try have cp1 := bx1.free1); (try have cl1 := bx1.lt); (try have cz1 := Nat.lt_succ_of_lt bx1.lt)))
            all_goals (go_split_ands; go_wp2_with fail; go_meet)
            all_goals first
              | (with_reducible exact fr_new D1 jf)
              | (with_reducible refine fr_old D1 jf bx1 ?_; omega)
          case rest =>
            obtain ⟨Rf, ao1, k1, cap1, ao2, k2, cap2, rfl, cf0, cf1, jf, b⟩ := hcut
            obtain ⟨wv9, hw_⟩ : ∃ w_ : World, w_ = wc := ⟨_, rfl⟩
            rw [← hw_] at b cf0 cf1 jf ⊢
            clear hw_
            replace hca := (b.cell (p := ⟨gL, j, none⟩) la).trans hca
            replace hcb := (b.cell (p := ⟨gL, j + 1, none⟩) lb).trans hcb
            replace ia := ia.below b
            replace ib := ib.below b
            replace hb := nextB hb b
            replace la := Nat.lt_of_lt_of_le la b.size
            replace lb := la
            clear b
            have lf : Rf < wv9.heap.size := World.block_lt_of_cell? wv9 _ cf0
            go_wp2
            go_region_held3 (fun w' => w'.cell? ⟨gL, j, none⟩ = some (.slice aoa ka capa) ∧ w'.cell? ⟨Rf, 0, none⟩ = some (.slice ao1 k1 cap1) ∧ w'.cell? ⟨Rf, 1, none⟩ = some (.slice ao2 k2 cap2) ∧ Below wv9.heap.size wv9 w')
              (first
                | exact ⟨hca, cf0, cf1, (Below.refl _ _).drew⟩
                | (go_split_ands; exact ⟨by assumption, by assumption, by assumption, by assumption⟩)
                | (go_split_ands; have hk := nextB (by assumption) bb; exact ⟨(hk.cell (p := ⟨gL, j, none⟩) la).trans hca, (hk.cell (p := ⟨Rf, 0, none⟩) lf).trans cf0, (hk.cell (p := ⟨Rf, 1, none⟩) lf).trans cf1, hk⟩))
              (first
                | (go_at_call 50; go_split_ands; (with_reducible refine (kfnum (L := 2000) (jf.below (by assumption))).mono ?_); rintro e wq ⟨v_, rfl, jn, bb⟩)
                | (go_at_call 44; go_split_ands; (with_reducible refine (kadd (L := 2000) (by omega) jn (Nu.of (IsNat.of (ia.below (by assumption))) HNa.out)).mono ?_); rintro e wq ⟨v2_, er_, rfl, -, bb⟩))
            go_split_ands
            have b : Below wv9.heap.size wv9 wq := by assumption
            obtain ⟨wv10, hw_⟩ : ∃ w_ : World, w_ = wq := ⟨_, rfl⟩
            rw [← hw_] at b ⊢
            clear hw_
            replace hca := (b.cell (p := ⟨gL, j, none⟩) la).trans hca
            replace hcb := (b.cell (p := ⟨gL, j + 1, none⟩) lb).trans hcb
            replace ia := ia.below b
            replace ib := ib.below b
            replace hb := nextB hb b
            replace la := Nat.lt_of_lt_of_le la b.size
            replace lb := la
            replace cf0 := (b.cell (p := ⟨Rf, 0, none⟩) lf).trans cf0
            replace cf1 := (b.cell (p := ⟨Rf, 1, none⟩) lf).trans cf1
            replace jf := jf.below b
            replace lf := Nat.lt_of_lt_of_le lf b.size
            clear b
            go_wp2_with fail
            refine (kfadd (L := 2000) (by omega) jf).mono ?_
            rintro e wq ⟨v_, rfl, b⟩
            obtain ⟨wv11, hw_⟩ : ∃ w_ : World, w_ = wq := ⟨_, rfl⟩
            rw [← hw_] at b ⊢
            clear hw_
            replace hca := (b.cell (p := ⟨gL, j, none⟩) la).trans hca
            replace hcb := (b.cell (p := ⟨gL, j + 1, none⟩) lb).trans hcb
            replace ia := ia.below b
            replace ib := ib.below b
            replace hb := nextB hb b
            replace la := Nat.lt_of_lt_of_le la b.size
            replace lb := la
            replace cf0 := (b.cell (p := ⟨Rf, 0, none⟩) lf).trans cf0
            replace cf1 := (b.cell (p := ⟨Rf, 1, none⟩) lf).trans cf1
            replace jf := jf.below b
            replace lf := Nat.lt_of_lt_of_le lf b.size
            clear b
            go_wp2_with fail
            refine (kbest (L := 2000) (by omega) jf).mono ?_
            rintro e wq ⟨v_, rfl, b⟩
            obtain ⟨wv12, hw_⟩ : ∃ w_ : World, w_ = wq := ⟨_, rfl⟩
            rw [← hw_] at b ⊢
            clear hw_
            replace hca := (b.cell (p := ⟨gL, j, none⟩) la).trans hca
            replace hcb := (b.cell (p := ⟨gL, j + 1, none⟩) lb).trans hcb
            replace ia := ia.below b
            replace ib := ib.below b
            replace hb := nextB hb b
            replace la := Nat.lt_of_lt_of_le la b.size
            replace lb := la
            replace cf0 := (b.cell (p := ⟨Rf, 0, none⟩) lf).trans cf0
            replace cf1 := (b.cell (p := ⟨Rf, 1, none⟩) lf).trans cf1
            replace jf := jf.below b
            replace lf := Nat.lt_of_lt_of_le lf b.size
            clear b
            go_wp2
            go_roundg (gk - 1)
            case measure => exact HGM.out
            case rel => exact ⟨j + 1, HJG.out, by go_num, hb⟩
    · have hj11 : j < 11 := by omega
      obtain ⟨aoj, kj, capj, hcj, ij, hnj⟩ := (hel.below hb) j hj11
      have HNJ := Lib.hid hnj
      have HJG := Lib.hid (show j + 1 + (gk - 1) = 11 by omega)
      have HGM := Lib.hid (show gk - 1 < gk by omega)
      clear hnj hjg
      obtain ⟨b, kz⟩ := pro1 wr (.slice aoj kj capj)
      obtain ⟨Rz, hRz⟩ : ∃ R, R = wr.heap.size := ⟨_, rfl⟩
      have cz := kz.cell
      go_wp2_with fail
      clear cz
      obtain ⟨w20, hw⟩ : ∃ w_ : World, w_ = wr.alloc (.cells #[.slice aoj kj capj] 25) := ⟨_, rfl⟩
      rw [← hw] at b ⊢
      clear hw kz hRz
      replace ij := ij.below b
      replace htr := htr.below b
      replace hb := nextB hb b
      clear b
      refine (String_any (IsNat.of ij) 2000 (by omega) HNJ.out).mono ?_
      rintro e w21 ⟨rfl, b⟩
      replace htr := htr.below b
      replace hb := nextB hb b
      clear b ij hcj
      have hsz := hb.size
      have hj40 : j < 1099511627776 := by omega
      go_wp2_with (at_builtin; go_loud (refine wpList_append_txt _ rfl _ _ 100 rfl Try.underlying100 w11.heap.size _ j nn (by rfl) htr (by rfl) hj40 hsz ?_; intro v' w' htr' hbel'))
      go_wp2
      go_roundg (gk - 1)
      case measure => exact HGM.out
      case rel => exact ⟨j + 1, HJG.out, by go_num, htr', hb.trans hbel'⟩

end Go.Proofs.Ytppbhjhbaknidaa
