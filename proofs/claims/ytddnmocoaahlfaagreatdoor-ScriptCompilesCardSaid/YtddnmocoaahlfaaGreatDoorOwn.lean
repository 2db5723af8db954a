/-
  What the reader of a script is in the program's memory while statements are open. No condition.
-/
import Derived.Test.YtddnmocoaahlfaaGreatDoorY38
set_option linter.unusedVariables false
set_option linter.unusedSimpArgs false
namespace Go.Proofs.YtddnmocoaahlfaaGreatDoor
open Go.RowKit Go.Shelf
abbrev Owns := Nat → Option Nat
def Foot (own : Owns) (w : World) (k : Nat) : Prop := own k = none ∧ k < w.heap.size
def OpnAt (w : World) (own : Owns) (i p : Nat) (o : Opn) (child : List Nat) : Prop :=
  (own p = some (3 + 3 * i) ∧ ArgOk o.kind o.args.length) ∧ ∃ va vb vo psb pso, SBlk w p o.line o.kind o.name va vb vo o.hasOther ∧ ArgsAt w (Foot own w) va o.args ∧
    (PRow w vb (psb ++ if o.hasOther then [] else child) ∧ ∀ k, vb.ownBlock = some k → own k = some (4 + 3 * i)) ∧
    (PRow w vo (pso ++ if o.hasOther then child else []) ∧ ∀ k, vo.ownBlock = some k → own k = some (5 + 3 * i)) ∧
    StmsAt w (Foot own w) psb o.body ∧ StmsAt w (Foot own w) pso o.other
def OpnsAt (w : World) (own : Owns) : List Opn → List Nat → List Nat → Prop
  | [], ps, _ => ps = []
  | o :: os, ps, child => ∃ p ps', ps = p :: ps' ∧ OpnAt w own os.length p o child ∧ OpnsAt w own os ps' [p]
def outer (ps child : List Nat) : List Nat := match ps.getLast? with | none => child | some p => [p]
theorem outer_cons (p : Nat) (ps child : List Nat) : outer (p :: ps) child = outer ps [p] := by
  unfold outer
  cases ps with
  | nil => rfl
  | cons q ps => rw [List.getLast?_cons_cons, List.getLast?_eq_some_getLast (List.cons_ne_nil q ps)]
theorem OpnsAt.len {w : World} {own : Owns} : ∀ {os : List Opn} {ps child : List Nat}, OpnsAt w own os ps child → ps.length = os.length
  | [], ps, child, h => by unfold OpnsAt at h; subst h; rfl
  | o :: os, ps, child, h => by
    unfold OpnsAt at h
    obtain ⟨p, ps', rfl, _, h2⟩ := h
    simp [h2.len]
def BCells (w : World) (B : Nat) (vt vl : Value) : Prop := Blk w B #[.int .i64 0, .string ⟨#[]⟩, .string ⟨#[]⟩, .slice none 0 0, vt, .slice none 0 0, .bool false, vl] 114
def BAt (w : World) (own : Owns) (B B0 : Nat) (b : Bld) (child ps : List Nat) : Prop :=
  (∀ k s, own k = some s → k < w.heap.size ∧ B0 ≤ k) ∧ own B = some 0 ∧ ∃ vt vl pst, BCells w B vt vl ∧ (PRow w vl ps.reverse ∧ ∀ k, vl.ownBlock = some k → own k = some 1) ∧
    (PRow w vt (pst ++ outer ps child) ∧ ∀ k, vt.ownBlock = some k → own k = some 2) ∧ StmsAt w (Foot own w) pst b.top ∧ OpnsAt w own b.open_ ps child
structure KeepN (L N : Nat) (own own' : Owns) (w w' : World) : Prop where
  size : w.heap.size ≤ w'.heap.size
  free : ∀ k, k < w.heap.size → own k = none → own' k = none ∧ w'.heap[k]? = w.heap[k]?
  slot : ∀ k s, k < w.heap.size → own k = some s → L ≤ s → s < N → own' k = some s ∧ w'.heap[k]? = w.heap[k]?
theorem KeepN.foot {L N : Nat} {own own' : Owns} {w w' : World} (h : KeepN L N own own' w w') : ∀ k, Foot own w k → Foot own' w' k := fun k hk => ⟨(h.free k hk.2 hk.1).1, Nat.lt_of_lt_of_le hk.2 h.size⟩
theorem KeepN.stms {L N : Nat} {own own' : Owns} {w w' : World} (h : KeepN L N own own' w w') {ps : List Nat} {ss : List Stm} (hs : StmsAt w (Foot own w) ps ss) : StmsAt w' (Foot own' w') ps ss :=
  StmsAt.wider h.foot (fun k hk => hk.2) ss ps (StmsAt.keep h.size (fun k hk => (h.free k hk.2 hk.1).2) ss ps hs)
theorem KeepN.args {L N : Nat} {own own' : Owns} {w w' : World} (h : KeepN L N own own' w w') {v : Value} {xs : List Ex} (hs : ArgsAt w (Foot own w) v xs) : ArgsAt w' (Foot own' w') v xs :=
  (hs.keep h.size (fun k hk => (h.free k hk.2 hk.1).2)).wider h.foot (fun k hk => hk.2)
theorem KeepN.row {L N : Nat} {own own' : Owns} {w w' : World} (h : KeepN L N own own' w w') {v : Value} {ps : List Nat} {s : Nat} (h3 : L ≤ s) (hN : s < N) (hr : PRow w v ps ∧ ∀ k, v.ownBlock = some k → own k = some s) : PRow w' v ps ∧ ∀ k, v.ownBlock = some k → own' k = some s :=
  ⟨row_keep hr.1 (fun k hk => (h.slot k s (hr.1.lt k hk).2 (hr.2 k hk) h3 hN).2), fun k hk => (h.slot k s (hr.1.lt k hk).2 (hr.2 k hk) h3 hN).1⟩
theorem SBlk.lt {w : World} {p line : Nat} {kind name : List UInt8} {va vb vo : Value} {ho : Bool} (h : SBlk w p line kind name va vb vo ho) : p < w.heap.size := by
  obtain ⟨k, n, _, _, _, _, _, h6⟩ := h
  exact Blk.lt h6
theorem OpnAt.keep {L N : Nat} {own own' : Owns} {w w' : World} (h : KeepN L N own own' w w') (hL : L ≤ 3) {i p : Nat} {o : Opn} {child : List Nat} (hi : 6 + 3 * i ≤ N) (ho : OpnAt w own i p o child) : OpnAt w' own' i p o child := by
  obtain ⟨⟨h1, h2⟩, va, vb, vo, psb, pso, h3, h4, h5, h6, h7, h8⟩ := ho
  have hp := h.slot p _ h3.lt h1 (by omega) (by omega)
  exact ⟨⟨hp.1, h2⟩, va, vb, vo, psb, pso, h3.keep hp.2, h.args h4, h.row (by omega) (by omega) h5, h.row (by omega) (by omega) h6, h.stms h7, h.stms h8⟩
theorem OpnsAt.keep {L N : Nat} {own own' : Owns} {w w' : World} (h : KeepN L N own own' w w') (hL : L ≤ 3) : ∀ {os : List Opn} {ps child : List Nat}, 3 + 3 * os.length ≤ N → OpnsAt w own os ps child → OpnsAt w' own' os ps child
  | [], ps, child, _, ho => ho
  | o :: os, ps, child, hN, ho => by
    unfold OpnsAt at ho ⊢
    obtain ⟨p, ps', rfl, h1, h2⟩ := ho
    simp only [List.length_cons] at hN
    exact ⟨p, ps', rfl, h1.keep h hL (by omega), h2.keep h hL (by omega)⟩
theorem BAt.keep {N : Nat} {own own' : Owns} {w w' : World} {B B0 : Nat} {b : Bld} {child ps : List Nat} (h : KeepN 0 N own own' w w') (hN : 3 + 3 * b.open_.length ≤ N) (hown : ∀ k s, own' k = some s → k < w'.heap.size ∧ B0 ≤ k) (hb : BAt w own B B0 b child ps) : BAt w' own' B B0 b child ps := by
  obtain ⟨_, h2, vt, vl, pst, h3, h4, h5, h6, h7⟩ := hb
  have hB := h.slot B 0 (Blk.lt h3) h2 (by omega) (by omega)
  refine ⟨hown, hB.1, vt, vl, pst, hB.2.trans h3, h.row (by omega) (by omega) h4, h.row (by omega) (by omega) h5, h.stms h6, h7.keep h (by omega) hN⟩
/-! The list to which the next statement belongs. -/
def curCell (B : Nat) (b : Bld) (ps : List Nat) : Addr := match b.open_, ps with
  | o :: _, p :: _ => ⟨p, if o.hasOther then 5 else 4, none⟩
  | _, _ => ⟨B, 4, none⟩
def curList (b : Bld) : List Stm := match b.open_ with | [] => b.top | o :: _ => if o.hasOther then o.other else o.body
def curSlot (b : Bld) : Nat := match b.open_ with | [] => 2 | o :: os => (if o.hasOther then 5 else 4) + 3 * os.length
structure Pushed (own : Owns) (sl : Nat) (a : Addr) (v v' : Value) (w w' : World) : Prop where
  size : w.heap.size ≤ w'.heap.size
  block : ∀ k, k < w.heap.size → k ≠ a.block → v.ownBlock ≠ some k → w'.heap[k]? = w.heap[k]?
  cell : ∀ (cs : Array Value) (T : TypeId), Blk w a.block cs T → Blk w' a.block (cs.setIfInBounds a.off v') T
  new : ∀ k, v'.ownBlock = some k → v.ownBlock = some k ∨ w.heap.size ≤ k ∧ k < w'.heap.size
def ownPut (own : Owns) (v' : Value) (sl : Nat) : Owns := fun k => if v'.ownBlock = some k then some sl else own k
theorem ownPut_old {own : Owns} {v v' : Value} {sl : Nat} {w w' : World} {a : Addr} (h : Pushed own sl a v v' w w') (hv : ∀ k, v.ownBlock = some k → own k = some sl) {k : Nat} (hk : k < w.heap.size) : ownPut own v' sl k = own k := by
  unfold ownPut
  split
  · rename_i e
    rcases h.new k e with h1 | h1
    · exact (hv k h1).symm
    · omega
  · rfl
theorem ownPut_new {own : Owns} {v' : Value} {sl k : Nat} (h : v'.ownBlock = some k) : ownPut own v' sl k = some sl := by unfold ownPut; rw [if_pos h]
theorem Pushed.other {own : Owns} {v v' : Value} {sl : Nat} {w w' : World} {a : Addr} (h : Pushed own sl a v v' w w') (hv : ∀ k, v.ownBlock = some k → own k = some sl) {k : Nat} (hk : k < w.heap.size) (h1 : own k ≠ some sl) (h2 : own a.block ≠ own k) : ownPut own v' sl k = own k ∧ w'.heap[k]? = w.heap[k]? :=
  ⟨ownPut_old h hv hk, h.block k hk (fun e => h2 (by rw [e])) (fun e => h1 (hv k e))⟩
theorem Pushed.keep {own : Owns} {v v' : Value} {sl L N : Nat} {w w' : World} {a : Addr} (h : Pushed own sl a v v' w w') (hv : ∀ k, v.ownBlock = some k → own k = some sl) {sa : Nat} (ha : own a.block = some sa) (hN : (sl < L ∨ N ≤ sl) ∧ (sa < L ∨ N ≤ sa)) : KeepN L N own (ownPut own v' sl) w w' := by
  refine ⟨h.size, fun k hk hn => ?_, fun k s hk hs h3 hsN => ?_⟩
  · have := h.other hv hk (by rw [hn]; intro e; cases e) (by rw [hn, ha]; intro e; cases e)
    exact ⟨this.1.trans hn, this.2⟩
  · have := h.other hv hk (by rw [hs]; intro e; injection e; omega) (by rw [hs, ha]; intro e; injection e; omega)
    exact ⟨this.1.trans hs, this.2⟩
theorem Pushed.own {own : Owns} {v v' : Value} {sl B0 : Nat} {w w' : World} {a : Addr} (h : Pushed own sl a v v' w w') (hv : ∀ k, v.ownBlock = some k → own k = some sl) (h0 : ∀ k s, own k = some s → k < w.heap.size ∧ B0 ≤ k) (hB : B0 ≤ w.heap.size) : ∀ k s, ownPut own v' sl k = some s → k < w'.heap.size ∧ B0 ≤ k := by
  intro k s hk
  have hs := h.size
  unfold ownPut at hk
  split at hk
  · rename_i e
    rcases h.new k e with h1 | h1
    · have := h0 k _ (hv k h1); omega
    · omega
  · have := h0 k s hk; omega
theorem BAt.push {w : World} {own : Owns} {B B0 : Nat} {b : Bld} {ps : List Nat} (hb : BAt w own B B0 b [] ps) :
    ∃ v qs, w.cell? (curCell B b ps) = some v ∧ w.frozen? (curCell B b ps) = false ∧ (PRow w v qs ∧ qs.length = (curList b).length) ∧ (∀ k, v.ownBlock = some k → own k = some (curSlot b)) ∧ (∃ sa, own (curCell B b ps).block = some sa ∧ sa ≠ 1 ∧ (sa < 3 ∨ sa < 3 + 3 * b.open_.length) ∧ curSlot b < 3 + 3 * b.open_.length ∧ curSlot b ≠ 1) ∧
      ∀ w' v' p, Pushed own (curSlot b) (curCell B b ps) v v' w w' → PRow w' v' (qs ++ [p]) → BAt w' (ownPut own v' (curSlot b)) B B0 b [p] ps := by
  obtain ⟨h1, h2, vt, vl, pst, h3, h4, h5, h6, h7⟩ := hb
  have hBlt := Blk.lt h3
  have hB0 : B0 ≤ w.heap.size := by have := h1 B 0 h2; omega
  obtain ⟨top, os⟩ := b
  cases os with
  | nil =>
    unfold OpnsAt at h7
    subst h7
    have ht : outer [] [] = [] := rfl
    rw [ht, List.append_nil] at h5
    have hsl : curSlot ⟨top, []⟩ = 2 := rfl
    have hc : curCell B ⟨top, []⟩ [] = ⟨B, 4, none⟩ := rfl
    rw [hsl, hc]
    refine ⟨vt, pst, (Blk.cell h3 4).trans rfl, Blk.frozen h3 4, ⟨h5.1, h6.len⟩, h5.2, ⟨0, h2, by decide, by omega, by omega, by decide⟩, fun w' v' p hp hr => ?_⟩
    have hk : ∀ N, KeepN 3 N own (ownPut own v' 2) w w' := fun N => hp.keep h5.2 h2 ⟨.inl (by decide), .inl (by decide)⟩
    have hvl : ∀ k, vl.ownBlock = some k → ownPut own v' 2 k = own k ∧ w'.heap[k]? = w.heap[k]? := fun k hkk => hp.other h5.2 (h4.1.lt k hkk).2 (by rw [h4.2 k hkk]; decide) (by rw [h4.2 k hkk]; show own B ≠ _; rw [h2]; decide)
    refine ⟨hp.own h5.2 h1 hB0, (ownPut_old hp h5.2 hBlt).trans h2, v', vl, pst, ?_, ⟨row_keep h4.1 (fun k hkk => (hvl k hkk).2), fun k hkk => (hvl k hkk).1.trans (h4.2 k hkk)⟩, ⟨hr, fun k hkk => ownPut_new hkk⟩, (hk 3).stms h6, rfl⟩
    have := hp.cell _ _ h3
    exact this
  | cons o os =>
    unfold OpnsAt at h7
    obtain ⟨p0, ps', rfl, ho, h8⟩ := h7
    obtain ⟨⟨g1, g2⟩, va, vb, vo, psb, pso, g3, g4, g5, g6, g7, g8⟩ := ho
    have hp0 := g3.lt
    obtain ⟨kb, nb, e1, e2, e3, e4, e5, hblk⟩ := g3
    cases hho : o.hasOther with
    | true =>
      rw [hho] at g5 g6 hblk
      simp only [if_true, List.append_nil, Bool.false_eq_true, if_false] at g5 g6
      have hc : curCell B ⟨top, o :: os⟩ (p0 :: ps') = ⟨p0, 5, none⟩ := by unfold curCell; simp [hho]
      have hsl : curSlot ⟨top, o :: os⟩ = 5 + 3 * os.length := by unfold curSlot; simp [hho]
      rw [hc, hsl]
      refine ⟨vo, pso, (Blk.cell hblk 5).trans rfl, Blk.frozen hblk 5, ⟨g6.1, by rw [g8.len]; unfold curList; simp [hho]⟩, g6.2, ⟨_, g1, by omega, by simp only [List.length_cons]; omega, by simp only [List.length_cons]; omega, by omega⟩, fun w' v' p hp hr => ?_⟩
      have hk : KeepN 3 (3 + 3 * os.length) own (ownPut own v' (5 + 3 * os.length)) w w' := hp.keep g6.2 g1 ⟨.inr (by omega), .inr (by omega)⟩
      have ot : ∀ k s, k < w.heap.size → own k = some s → s ≠ 5 + 3 * os.length → s ≠ 3 + 3 * os.length → ownPut own v' (5 + 3 * os.length) k = some s ∧ w'.heap[k]? = w.heap[k]? := fun k s h9 hs n1 n2 => by
        have := hp.other g6.2 h9 (by rw [hs]; intro e; injection e; omega) (by rw [hs]; show own p0 ≠ _; rw [g1]; intro e; injection e; omega)
        exact ⟨this.1.trans hs, this.2⟩
      have rw1 : ∀ {u : Value} {rs : List Nat} {s : Nat}, (PRow w u rs ∧ ∀ k, u.ownBlock = some k → own k = some s) → s ≠ 5 + 3 * os.length → s ≠ 3 + 3 * os.length → PRow w' u rs ∧ ∀ k, u.ownBlock = some k → ownPut own v' (5 + 3 * os.length) k = some s := fun hr n1 n2 =>
        ⟨row_keep hr.1 (fun k hkk => (ot k _ (hr.1.lt k hkk).2 (hr.2 k hkk) n1 n2).2), fun k hkk => (ot k _ (hr.1.lt k hkk).2 (hr.2 k hkk) n1 n2).1⟩
      have hBB := ot B 0 hBlt h2 (by omega) (by omega)
      have hcell := hp.cell _ _ hblk
      refine ⟨hp.own g6.2 h1 hB0, hBB.1, vt, vl, pst, hBB.2.trans h3, rw1 h4 (by omega) (by omega), rw1 (by rw [outer_cons] at h5 ⊢; exact h5) (by omega) (by omega), hk.stms h6, ?_⟩
      unfold OpnsAt
      refine ⟨p0, ps', rfl, ⟨⟨(ownPut_old hp g6.2 hp0).trans g1, g2⟩, va, vb, v', psb, pso, ⟨kb, nb, e1, e2, e3, e4, e5, by rw [hho]; exact hcell⟩, hk.args g4, ?_, ?_, hk.stms g7, hk.stms g8⟩, h8.keep hk (by omega) (Nat.le_refl _)⟩
      · rw [hho]
        simp only [if_true, List.append_nil]
        exact rw1 g5 (by omega) (by omega)
      · rw [hho]
        simp only [if_true]
        exact ⟨hr, fun k hkk => ownPut_new hkk⟩
    | false =>
      rw [hho] at g5 g6 hblk
      simp only [if_true, List.append_nil, Bool.false_eq_true, if_false] at g5 g6
      have hc : curCell B ⟨top, o :: os⟩ (p0 :: ps') = ⟨p0, 4, none⟩ := by unfold curCell; simp [hho]
      have hsl : curSlot ⟨top, o :: os⟩ = 4 + 3 * os.length := by unfold curSlot; simp [hho]
      rw [hc, hsl]
      refine ⟨vb, psb, (Blk.cell hblk 4).trans rfl, Blk.frozen hblk 4, ⟨g5.1, by rw [g7.len]; unfold curList; simp [hho]⟩, g5.2, ⟨_, g1, by omega, by simp only [List.length_cons]; omega, by simp only [List.length_cons]; omega, by omega⟩, fun w' v' p hp hr => ?_⟩
      have hk : KeepN 3 (3 + 3 * os.length) own (ownPut own v' (4 + 3 * os.length)) w w' := hp.keep g5.2 g1 ⟨.inr (by omega), .inr (by omega)⟩
      have ot : ∀ k s, k < w.heap.size → own k = some s → s ≠ 4 + 3 * os.length → s ≠ 3 + 3 * os.length → ownPut own v' (4 + 3 * os.length) k = some s ∧ w'.heap[k]? = w.heap[k]? := fun k s h9 hs n1 n2 => by
        have := hp.other g5.2 h9 (by rw [hs]; intro e; injection e; omega) (by rw [hs]; show own p0 ≠ _; rw [g1]; intro e; injection e; omega)
        exact ⟨this.1.trans hs, this.2⟩
      have rw1 : ∀ {u : Value} {rs : List Nat} {s : Nat}, (PRow w u rs ∧ ∀ k, u.ownBlock = some k → own k = some s) → s ≠ 4 + 3 * os.length → s ≠ 3 + 3 * os.length → PRow w' u rs ∧ ∀ k, u.ownBlock = some k → ownPut own v' (4 + 3 * os.length) k = some s := fun hr n1 n2 =>
        ⟨row_keep hr.1 (fun k hkk => (ot k _ (hr.1.lt k hkk).2 (hr.2 k hkk) n1 n2).2), fun k hkk => (ot k _ (hr.1.lt k hkk).2 (hr.2 k hkk) n1 n2).1⟩
      have hBB := ot B 0 hBlt h2 (by omega) (by omega)
      have hcell := hp.cell _ _ hblk
      refine ⟨hp.own g5.2 h1 hB0, hBB.1, vt, vl, pst, hBB.2.trans h3, rw1 h4 (by omega) (by omega), rw1 (by rw [outer_cons] at h5 ⊢; exact h5) (by omega) (by omega), hk.stms h6, ?_⟩
      unfold OpnsAt
      refine ⟨p0, ps', rfl, ⟨⟨(ownPut_old hp g5.2 hp0).trans g1, g2⟩, va, v', vo, psb, pso, ⟨kb, nb, e1, e2, e3, e4, e5, by rw [hho]; exact hcell⟩, hk.args g4, ?_, ?_, hk.stms g7, hk.stms g8⟩, h8.keep hk (by omega) (Nat.le_refl _)⟩
      · rw [hho]
        simp only [Bool.false_eq_true, if_false]
        exact ⟨hr, fun k hkk => ownPut_new hkk⟩
      · rw [hho]
        simp only [Bool.false_eq_true, if_false, List.append_nil]
        exact rw1 g6 (by omega) (by omega)
theorem BAt.put {w : World} {own : Owns} {B B0 : Nat} {b : Bld} {ps : List Nat} {p : Nat} {s : Stm} (hb : BAt w own B B0 b [p] ps) (hs : StmAt w (Foot own w) p s) : BAt w own B B0 (b.put s) [] ps := by
  obtain ⟨h1, h2, vt, vl, pst, h3, h4, h5, h6, h7⟩ := hb
  obtain ⟨top, os⟩ := b
  cases os with
  | nil =>
    unfold OpnsAt at h7
    subst h7
    exact ⟨h1, h2, vt, vl, pst ++ [p], h3, h4, by simpa [outer] using h5, h6.snoc hs, by unfold OpnsAt; rfl⟩
  | cons o os =>
    unfold OpnsAt at h7
    obtain ⟨p0, ps', rfl, ho, h8⟩ := h7
    obtain ⟨⟨g1, g2⟩, va, vb, vo, psb, pso, g3, g4, g5, g6, g7, g8⟩ := ho
    refine ⟨h1, h2, vt, vl, pst, h3, h4, by rw [outer_cons] at h5 ⊢; exact h5, h6, ?_⟩
    show OpnsAt w own (o.put s :: os) (p0 :: ps') []
    unfold OpnsAt
    cases hho : o.hasOther with
    | true =>
      have e : o.put s = { o with other := o.other ++ [s] } := by unfold Opn.put; rw [hho]; rfl
      rw [hho] at g5 g6
      simp only [if_true] at g5 g6
      rw [e]
      exact ⟨p0, ps', rfl, ⟨⟨g1, g2⟩, va, vb, vo, psb, pso ++ [p], g3, g4, by simpa [hho] using g5, by simpa [hho] using g6, g7, g8.snoc hs⟩, h8⟩
    | false =>
      have e : o.put s = { o with body := o.body ++ [s] } := by unfold Opn.put; rw [hho]; rfl
      rw [hho] at g5 g6
      simp only [Bool.false_eq_true, if_false] at g5 g6
      rw [e]
      exact ⟨p0, ps', rfl, ⟨⟨g1, g2⟩, va, vb, vo, psb ++ [p], pso, g3, g4, by simpa [hho] using g5, by simpa [hho] using g6, g7.snoc hs, g8⟩, h8⟩
/-! A statement is opened, and closed. -/
def ownSet (own : Owns) (p : Nat) (s : Option Nat) : Owns := fun k => if k = p then s else own k
theorem ownSet_ne {own : Owns} {p k : Nat} {s : Option Nat} (h : k ≠ p) : ownSet own p s k = own k := by unfold ownSet; rw [if_neg h]
theorem ownSet_eq {own : Owns} {p : Nat} {s : Option Nat} : ownSet own p s p = s := by unfold ownSet; rw [if_pos rfl]
theorem BAt.alloc {w : World} {own : Owns} {B B0 : Nat} {b : Bld} {child ps : List Nat} (hb : BAt w own B B0 b child ps) (o : Obj) {s : Nat} (hs : B0 ≤ w.heap.size) : BAt (w.alloc o) (ownSet own w.heap.size (some s)) B B0 b child ps := by
  have h1 := hb.1
  refine hb.keep (N := 3 + 3 * b.open_.length) ⟨by simp, fun k hk hn => ⟨by rw [ownSet_ne (by omega), hn], heap_alloc_old w o hk⟩, fun k t hk ht _ _ => ⟨by rw [ownSet_ne (by omega), ht], heap_alloc_old w o hk⟩⟩ (Nat.le_refl _) (fun k t hk => ?_)
  by_cases hkp : k = w.heap.size
  · subst hkp; simp; omega
  · rw [ownSet_ne hkp] at hk
    have := h1 k t hk
    simp; omega
theorem BAt.stays {w w' : World} {own : Owns} {B B0 : Nat} {b : Bld} {child ps : List Nat} {p : Nat} (hb : BAt w own B B0 b child ps) (hp : own p = some (3 + 3 * b.open_.length)) (h : Stays (fun k => k = p) w w') : BAt w' own B B0 b child ps := by
  have h1 := hb.1
  refine hb.keep (N := 3 + 3 * b.open_.length) ⟨h.size, fun k hk hn => ⟨hn, h.block k hk (fun e => by have e' : k = p := e; rw [e', hp] at hn; cases hn)⟩, fun k t hk ht _ htN => ⟨ht, h.block k hk (fun e => by have e' : k = p := e; rw [e', hp] at ht; injection ht; omega)⟩⟩ (Nat.le_refl _) (fun k t hk => ?_)
  have := h1 k t hk
  have := h.size
  omega
theorem BAt.below {w w' : World} {own : Owns} {B B0 : Nat} {b : Bld} {child ps : List Nat} (hb : BAt w own B B0 b child ps) (h : Below w.heap.size w w') : BAt w' own B B0 b child ps := by
  have h1 := hb.1
  refine hb.keep (N := 3 + 3 * b.open_.length) ⟨h.size, fun k hk hn => ⟨hn, h.block k hk⟩, fun k t hk ht _ htN => ⟨ht, h.block k hk⟩⟩ (Nat.le_refl _) (fun k t hk => ?_)
  have := h1 k t hk
  have := h.size
  omega
theorem BAt.free {w : World} {own : Owns} {B B0 : Nat} {b : Bld} {child ps : List Nat} {p : Nat} (hb : BAt w own B B0 b child ps) (hp : own p = some (3 + 3 * b.open_.length)) : BAt w (ownSet own p none) B B0 b child ps := by
  have h1 := hb.1
  refine hb.keep (N := 3 + 3 * b.open_.length) ⟨Nat.le_refl _, fun k hk hn => ⟨?_, rfl⟩, fun k t hk ht _ htN => ⟨?_, rfl⟩⟩ (Nat.le_refl _) (fun k t hk => ?_)
  · by_cases e : k = p
    · subst e; exact ownSet_eq
    · rw [ownSet_ne e, hn]
  · rw [ownSet_ne (fun e => by rw [e, hp] at ht; injection ht; omega), ht]
  · by_cases e : k = p
    · subst e; rw [ownSet_eq] at hk; cases hk
    · rw [ownSet_ne e] at hk; exact h1 k t hk
theorem BAt.opened {w : World} {own : Owns} {B B0 : Nat} {b : Bld} {ps : List Nat} {p : Nat} {o : Opn} (hb : BAt w own B B0 b [p] ps) (ho : OpnAt w own b.open_.length p o []) :
    ∃ vl, w.cell? ⟨B, 7, none⟩ = some vl ∧ w.frozen? ⟨B, 7, none⟩ = false ∧ PRow w vl ps.reverse ∧ (∀ k, vl.ownBlock = some k → own k = some 1) ∧ own B = some 0 ∧
      ∀ w' v', Pushed own 1 ⟨B, 7, none⟩ vl v' w w' → PRow w' v' (ps.reverse ++ [p]) → BAt w' (ownPut own v' 1) B B0 ⟨b.top, o :: b.open_⟩ [] (p :: ps) := by
  obtain ⟨h1, h2, vt, vl, pst, h3, h4, h5, h6, h7⟩ := hb
  have hBlt := Blk.lt h3
  have hB0 : B0 ≤ w.heap.size := by have := h1 B 0 h2; omega
  refine ⟨vl, (Blk.cell h3 7).trans rfl, Blk.frozen h3 7, h4.1, h4.2, h2, fun w' v' hp hr => ?_⟩
  have hk : ∀ N, KeepN 2 N own (ownPut own v' 1) w w' := fun N => hp.keep h4.2 h2 ⟨.inl (by decide), .inl (by decide)⟩
  have hcell := hp.cell _ _ h3
  refine ⟨hp.own h4.2 h1 hB0, (ownPut_old hp h4.2 hBlt).trans h2, vt, v', pst, hcell, ⟨by rw [List.reverse_cons]; exact hr, fun k hkk => ownPut_new hkk⟩, ?_, (hk 3).stms h6, ?_⟩
  · rw [outer_cons]; exact (hk 3).row (by omega) (by omega) h5
  · show OpnsAt w' _ (o :: b.open_) (p :: ps) []
    unfold OpnsAt
    exact ⟨p, ps, rfl, ho.keep (hk (6 + 3 * b.open_.length)) (by omega) (Nat.le_refl _), h7.keep (hk (6 + 3 * b.open_.length)) (by omega) (by omega)⟩
theorem BAt.last {w : World} {own : Owns} {B B0 : Nat} {top : List Stm} {o : Opn} {os : List Opn} {child ps : List Nat} (hb : BAt w own B B0 ⟨top, o :: os⟩ child ps) :
    ∃ p ps' G cap, ps = p :: ps' ∧ ps'.length = os.length ∧ w.cell? ⟨B, 7, none⟩ = some (.slice (some ⟨G, 0, none⟩) (ps'.length + 1) cap) ∧ w.frozen? ⟨B, 7, none⟩ = false ∧ ps'.length + 1 ≤ cap ∧ cap ≤ maxLen ∧ w.cell? ⟨G, ps'.length, none⟩ = some (ptr p) ∧ own G = some 1 ∧ own B = some 0 ∧ own p = some (3 + 3 * os.length) ∧
      ∃ kb nb va vb vo, txt kb = o.kind ∧ txt nb = o.name ∧ kb.size ≤ 65536 ∧ Blk w p #[.int .i64 o.line, .string kb, .string nb, va, vb, vo, .bool o.hasOther] 112 := by
  obtain ⟨h1, h2, vt, vl, pst, h3, h4, h5, h6, h7⟩ := hb
  have hlen := h7.len
  unfold OpnsAt at h7
  obtain ⟨p, ps', rfl, ho, h8⟩ := h7
  obtain ⟨⟨g1, g2⟩, va, vb, vo, psb, pso, ⟨kb, nb, e1, e2, e3, e4, e5, hblk⟩, _⟩ := ho
  have hl : (p :: ps').reverse.length = ps'.length + 1 := by simp
  rcases h4.1.2 with ⟨_, h0⟩ | ⟨G, cap, cur, rfl, _, hG, hc, hcm, hsz, htk⟩
  · rw [hl] at h0; omega
  · refine ⟨p, ps', G, cap, rfl, h8.len, ?_, Blk.frozen h3 7, by rw [hl] at hc; exact hc, hcm, ?_, h4.2 G rfl, h2, g1, kb, nb, va, vb, vo, e1, e2, e3, hblk⟩
    · rw [← hl]; exact (Blk.cell h3 7).trans rfl
    · have := row_get h4.1 (by rw [hl]; omega) ps'.length (by simp)
      rw [this]
      simp
theorem BAt.empty {w : World} {own : Owns} {B B0 : Nat} {top : List Stm} {child ps : List Nat} (hb : BAt w own B B0 ⟨top, []⟩ child ps) : ps = [] ∧ ∃ a c, w.cell? ⟨B, 7, none⟩ = some (.slice a 0 c) := by
  obtain ⟨h1, h2, vt, vl, pst, h3, h4, h5, h6, h7⟩ := hb
  unfold OpnsAt at h7
  subst h7
  refine ⟨rfl, ?_⟩
  have hc : w.cell? ⟨B, 7, none⟩ = some vl := (Blk.cell h3 7).trans rfl
  rcases h4.1.2 with ⟨rfl, _⟩ | ⟨G, cap, cur, rfl, _⟩
  · exact ⟨_, _, hc⟩
  · exact ⟨_, _, hc⟩
def ownCut (own : Owns) (N : Nat) : Owns := fun k => match own k with | none => none | some s => if N ≤ s then none else some s
theorem row_shrink {w : World} {b e : Nat} {G n cap : Nat} {xs : List Value} {x : Value} (h : w.ownsRow b e 1 (.slice (some ⟨G, 0, none⟩) (n + 1) cap) (n + 1) (xs ++ [x])) : w.ownsRow b e 1 (.slice (some ⟨G, 0, none⟩) n cap) n xs := by
  have hl := h.1
  simp at hl
  refine ⟨by omega, ?_⟩
  rcases h.2 with ⟨h0, _⟩ | ⟨g, c, cur, hv, hg, hh, hc, hcm, hsz, ht⟩
  · cases h0
  · injection hv with e1 e2 e3
    injection e1 with e1
    injection e1 with e1
    subst e1
    subst e3
    refine .inr ⟨G, cap, cur, rfl, hg, hh, by omega, hcm, hsz, ?_⟩
    have := congrArg (List.take n) ht
    rw [List.take_take] at this
    rw [Nat.mul_one] at *
    rw [Nat.min_eq_left (by omega)] at this
    rw [this, List.take_append_of_le_length (by omega), List.take_of_length_le (by omega)]
theorem BAt.closed {w : World} {own : Owns} {B B0 : Nat} {top : List Stm} {o : Opn} {os : List Opn} {p : Nat} {ps' : List Nat} {G cap : Nat} (hb : BAt w own B B0 ⟨top, o :: os⟩ [] (p :: ps')) (hc : w.cell? ⟨B, 7, none⟩ = some (.slice (some ⟨G, 0, none⟩) (ps'.length + 1) cap)) :
    BAt (w.setCell ⟨B, 7, none⟩ (.slice (some ⟨G, 0, none⟩) ps'.length cap)) (ownCut own (3 + 3 * os.length)) B B0 (Bld.put ⟨top, os⟩ o.toStm) [] ps' := by
  obtain ⟨h1, h2, vt, vl, pst, h3, h4, h5, h6, h7⟩ := hb
  have hBlt := Blk.lt h3
  have hvl : vl = .slice (some ⟨G, 0, none⟩) (ps'.length + 1) cap := by
    have : w.cell? ⟨B, 7, none⟩ = some vl := (Blk.cell h3 7).trans rfl
    rw [hc] at this
    injection this with this
    exact this.symm
  subst hvl
  unfold OpnsAt at h7
  obtain ⟨p', ps'', e, ho, h8⟩ := h7
  injection e with e1 e2
  subst e1; subst e2
  have hst : Stays (fun k => k = B) w (w.setCell ⟨B, 7, none⟩ (.slice (some ⟨G, 0, none⟩) ps'.length cap)) := Stays.cell (.refl _ w) 7 _
  have hsz := hst.size
  have same : ∀ k, k < w.heap.size → own k ≠ some 0 → (w.setCell ⟨B, 7, none⟩ (.slice (some ⟨G, 0, none⟩) ps'.length cap)).heap[k]? = w.heap[k]? := fun k hk hn => hst.block k hk (fun e => hn (by have e' : k = B := e; rw [e']; exact h2))
  have cutS : ∀ k s, own k = some s → s < 3 + 3 * os.length → ownCut own (3 + 3 * os.length) k = some s := fun k s hs hN => by unfold ownCut; rw [hs]; simp only; rw [if_neg (by omega)]
  have cutN : ∀ k s, own k = some s → 3 + 3 * os.length ≤ s → ownCut own (3 + 3 * os.length) k = none := fun k s hs hN => by unfold ownCut; rw [hs]; simp only; rw [if_pos (by omega)]
  have hk : KeepN 1 (3 + 3 * os.length) own (ownCut own (3 + 3 * os.length)) w (w.setCell ⟨B, 7, none⟩ (.slice (some ⟨G, 0, none⟩) ps'.length cap)) :=
    ⟨hsz, fun k hk hn => ⟨by unfold ownCut; rw [hn], same k hk (by rw [hn]; intro e; cases e)⟩, fun k s hk hs hL hN => ⟨cutS k s hs hN, same k hk (by rw [hs]; intro e; injection e; omega)⟩⟩
  have rowF : ∀ {u : Value} {rs : List Nat} {s : Nat}, (PRow w u rs ∧ ∀ k, u.ownBlock = some k → own k = some s) → 3 + 3 * os.length ≤ s → PRow (w.setCell ⟨B, 7, none⟩ (.slice (some ⟨G, 0, none⟩) ps'.length cap)) u rs ∧ ∀ k, u.ownBlock = some k → Foot (ownCut own (3 + 3 * os.length)) (w.setCell ⟨B, 7, none⟩ (.slice (some ⟨G, 0, none⟩) ps'.length cap)) k := fun hr hs =>
    ⟨row_keep hr.1 (fun k hkk => same k (hr.1.lt k hkk).2 (by rw [hr.2 k hkk]; intro e; injection e; omega)), fun k hkk => ⟨cutN k _ (hr.2 k hkk) hs, Nat.lt_of_lt_of_le (hr.1.lt k hkk).2 hsz⟩⟩
  have hput : BAt (w.setCell ⟨B, 7, none⟩ (.slice (some ⟨G, 0, none⟩) ps'.length cap)) (ownCut own (3 + 3 * os.length)) B B0 ⟨top, os⟩ [p] ps' := by
    refine ⟨fun k s hks => ?_, cutS B 0 h2 (by omega), vt, .slice (some ⟨G, 0, none⟩) ps'.length cap, pst, ?_, ?_, ?_, hk.stms h6, h8.keep hk (by omega) (Nat.le_refl _)⟩
    · have : own k = some s := by
        unfold ownCut at hks
        cases ho : own k with
        | none => rw [ho] at hks; cases hks
        | some t =>
          rw [ho] at hks
          simp only at hks
          split at hks
          · cases hks
          · exact hks
      have := h1 k s this
      omega
    · have := Blk.set h3 7 (.slice (some ⟨G, 0, none⟩) ps'.length cap)
      exact this
    · refine ⟨?_, fun k hkk => cutS k 1 (h4.2 k hkk) (by omega)⟩
      have hr := row_keep h4.1 (w' := w.setCell ⟨B, 7, none⟩ (.slice (some ⟨G, 0, none⟩) ps'.length cap)) (fun k hkk => same k (h4.1.lt k hkk).2 (by rw [h4.2 k hkk]; decide))
      simp only [List.reverse_cons, List.map_append, List.map_cons, List.map_nil, List.length_append, List.length_reverse, List.length_cons, List.length_nil, Nat.zero_add] at hr
      have := row_shrink hr
      unfold PRow
      rw [List.length_reverse]
      exact this
    · rw [outer_cons] at h5; exact hk.row (by omega) (by omega) h5
  refine hput.put ?_
  obtain ⟨⟨g1, g2⟩, va, vb, vo, psb, pso, g3, g4, g5, g6, g7, g8⟩ := ho
  unfold Opn.toStm StmAt
  refine ⟨⟨⟨cutN p _ g1 (by omega), Nat.lt_of_lt_of_le g3.lt hsz⟩, g2⟩, va, vb, vo, o.hasOther, psb, pso, g3.keep (same p g3.lt (by rw [g1]; intro e; injection e; omega)), hk.args g4, ?_, ?_, hk.stms g7, hk.stms g8⟩
  · exact rowF ⟨by simpa using g5.1, g5.2⟩ (by omega)
  · exact rowF ⟨by simpa using g6.1, g6.2⟩ (by omega)
theorem BAt.elsed {w : World} {own : Owns} {B B0 : Nat} {top : List Stm} {o : Opn} {os : List Opn} {p : Nat} {ps' : List Nat} (hb : BAt w own B B0 ⟨top, o :: os⟩ [] (p :: ps')) :
    BAt (w.setCell ⟨p, 6, none⟩ (.bool true)) own B B0 ⟨top, { o with hasOther := true } :: os⟩ [] (p :: ps') := by
  obtain ⟨h1, h2, vt, vl, pst, h3, h4, h5, h6, h7⟩ := hb
  unfold OpnsAt at h7
  obtain ⟨p', ps'', e, ho, h8⟩ := h7
  injection e with e1 e2
  subst e1; subst e2
  obtain ⟨⟨g1, g2⟩, va, vb, vo, psb, pso, g3, g4, g5, g6, g7, g8⟩ := ho
  have hst : Stays (fun k => k = p) w (w.setCell ⟨p, 6, none⟩ (.bool true)) := Stays.cell (.refl _ w) 6 _
  have hsz := hst.size
  have same : ∀ k, k < w.heap.size → own k ≠ some (3 + 3 * os.length) → (w.setCell ⟨p, 6, none⟩ (.bool true)).heap[k]? = w.heap[k]? := fun k hk hn => hst.block k hk (fun e => hn (by have e' : k = p := e; rw [e']; exact g1))
  have hk : KeepN 0 (3 + 3 * os.length) own own w (w.setCell ⟨p, 6, none⟩ (.bool true)) :=
    ⟨hsz, fun k hk hn => ⟨hn, same k hk (by rw [hn]; intro e; cases e)⟩, fun k s hk hs hL hN => ⟨hs, same k hk (by rw [hs]; intro e; injection e; omega)⟩⟩
  have rw1 : ∀ {u : Value} {rs : List Nat} {s : Nat}, (PRow w u rs ∧ ∀ k, u.ownBlock = some k → own k = some s) → s ≠ 3 + 3 * os.length → PRow (w.setCell ⟨p, 6, none⟩ (.bool true)) u rs ∧ ∀ k, u.ownBlock = some k → own k = some s := fun hr n1 =>
    ⟨row_keep hr.1 (fun k hkk => same k (hr.1.lt k hkk).2 (by rw [hr.2 k hkk]; intro e; injection e; omega)), hr.2⟩
  have hB := hk.slot B 0 (Blk.lt h3) h2 (by omega) (by omega)
  refine ⟨fun k s hks => by have := h1 k s hks; omega, h2, vt, vl, pst, hB.2.trans h3, rw1 h4 (by omega), rw1 (by rw [outer_cons] at h5 ⊢; exact h5) (by omega), hk.stms h6, ?_⟩
  unfold OpnsAt
  obtain ⟨kb, nb, e1, e2, e3, e4, e5, hblk⟩ := g3
  refine ⟨p, ps', rfl, ⟨⟨g1, g2⟩, va, vb, vo, psb, pso, ⟨kb, nb, e1, e2, e3, e4, e5, Blk.set hblk 6 (.bool true)⟩, hk.args g4, rw1 ⟨by simpa using g5.1, g5.2⟩ (by omega), rw1 ⟨by simpa using g6.1, g6.2⟩ (by omega), hk.stms g7, hk.stms g8⟩, h8.keep hk (by omega) (Nat.le_refl _)⟩
end Go.Proofs.YtddnmocoaahlfaaGreatDoor
