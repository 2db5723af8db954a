/-
  The contract of add: a line is put into the script that is being read. Conditions: the reader lies as Own says; at most 16 statements are open; lists of at most 65536 statements.
-/
import Derived.Test.YtddnmocoaahlfaaGreatDoorAdd
set_option linter.unusedVariables false
set_option linter.unusedSimpArgs false
namespace Go.Proofs.YtddnmocoaahlfaaGreatDoor
open Go.RowKit Go.Shelf
theorem srow_cons {w : World} {v : Value} {s : ByteArray} {st : List ByteArray} (h : SRow w v (s :: st)) : ∃ L o c, v = .slice (some ⟨L, o, none⟩) (st.length + 1) c ∧ st.length + 1 ≤ c ∧ w.cell? ⟨L, o, none⟩ = some (.string s) ∧ ∀ a, (st ≠ [] → a = ⟨L, o + 1, none⟩) → SRow w (.slice (some a) st.length (c - 1)) st := by
  have h' := h
  rcases h with ⟨h0, _⟩ | ⟨_, L, o, c, rfl, h2, _, h4⟩
  · cases h0
  · refine ⟨L, o, c, rfl, h2, h4 0 (by simp), fun a ha => ?_⟩
    by_cases hst : st = []
    · subst hst; exact .inl ⟨rfl, _, _, rfl⟩
    · rw [ha hst]; exact h'.cons hst
structure Pend (own0 : Owns) (w0 w : World) (own : Owns) (B B0 : Nat) (b : Bld) (ps : List Nat) (p : Nat) (line : Int) (kb : ByteArray) (n : List UInt8) (xs : List Ex) : Prop where
  at_ : BAt w own B B0 b [] ps
  pend : own p = some (3 + 3 * b.open_.length)
  fr : Fr own0 w0 own w
  st : ∃ nb va, txt nb = n ∧ nb.size ≤ 65536 ∧ SCells w p line kb nb va (.slice none 0 0) (.slice none 0 0) false ∧ ArgsAt w (Foot own w) va xs
theorem Pend.of {w w1 w2 : World} {own : Owns} {B B0 : Nat} {b : Bld} {ps : List Nat} {line : Int} {kb : ByteArray} {n : List UInt8} {xs : List Ex} {o : Obj} (hb : BAt w own B B0 b [] ps) (hw1 : w1 = w.alloc o) (h : Stays (fun j => j = w.heap.size) w1 w2)
    (hs : ∃ nb va, txt nb = n ∧ nb.size ≤ 65536 ∧ SCells w2 w.heap.size line kb nb va (.slice none 0 0) (.slice none 0 0) false ∧ ArgsAt w2 (New w1 w2) va xs) :
    Pend own w w2 (ownSet own w.heap.size (some (3 + 3 * b.open_.length))) B B0 b ps w.heap.size line kb n xs := by
  have hB := hb.base
  have z1 : w1.heap.size = w.heap.size + 1 := by rw [hw1]; simp
  have hb1 : BAt w1 (ownSet own w.heap.size (some (3 + 3 * b.open_.length))) B B0 b [] ps := by rw [hw1]; exact hb.alloc o (by omega)
  refine ⟨hb1.stays ownSet_eq h, ownSet_eq, ⟨?_, fun k hk hn => by rw [ownSet_ne (by omega)]; exact hn⟩, ?_⟩
  · have : Stays (fun k => own k ≠ none) w w1 := by rw [hw1]; exact (Stays.refl _ _).alloc _
    exact ⟨h.os.trans this.os, h.tape.trans this.tape, h.output.trans this.output, Nat.le_trans this.size h.size, fun k hk hn => (h.block k (by omega) (fun e => by have e' : k = w.heap.size := e; omega)).trans (this.block k hk hn)⟩
  · obtain ⟨nb, va, h1, h2, h3, h4⟩ := hs
    refine ⟨nb, va, h1, h2, h3, h4.wider (fun k hk => ⟨?_, hk.2⟩) (fun k hk => hk.2)⟩
    have hk1 := hk.1
    rw [ownSet_ne (by omega)]
    cases ho : own k with
    | none => rfl
    | some s => have := hb.1 k s ho; omega
theorem Pend.below {w0 w w' : World} {own0 own : Owns} {B B0 : Nat} {b : Bld} {ps : List Nat} {p : Nat} {line : Int} {kb : ByteArray} {n : List UInt8} {xs : List Ex} (h : Pend own0 w0 w own B B0 b ps p line kb n xs) (hb : Below w.heap.size w w') : Pend own0 w0 w' own B B0 b ps p line kb n xs := by
  obtain ⟨nb, va, h1, h2, h3, h4⟩ := h.st
  have hB := h.at_.base
  exact ⟨h.at_.below hb, h.pend, ⟨h.fr.st.next hb, h.fr.free⟩, nb, va, h1, h2, Blk.below h3 hb, (h4.keep hb.size (fun k hk => hb.block k hk.2)).wider (fun k hk => ⟨hk.1, Nat.lt_of_lt_of_le hk.2 hb.size⟩) (fun k hk => hk.2)⟩
structure Put (own0 : Owns) (w0 w : World) (own : Owns) (B B0 : Nat) (b : Bld) (ps : List Nat) (p : Nat) (line : Int) (kb : ByteArray) (n : List UInt8) (xs : List Ex) : Prop where
  at_ : BAt w own B B0 b [p] ps
  pend : own p = some (3 + 3 * b.open_.length)
  fr : Fr own0 w0 own w
  st : ∃ nb va, txt nb = n ∧ nb.size ≤ 65536 ∧ SCells w p line kb nb va (.slice none 0 0) (.slice none 0 0) false ∧ ArgsAt w (Foot own w) va xs
theorem Pend.put {w0 w : World} {own0 own : Owns} {B B0 : Nat} {b : Bld} {ps : List Nat} {p : Nat} {line : Int} {kb : ByteArray} {n : List UInt8} {xs : List Ex} (h : Pend own0 w0 w own B B0 b ps p line kb n xs) :
    ∃ blk off v qs, curCell B b ps = ⟨blk, off, none⟩ ∧ w.cell? ⟨blk, off, none⟩ = some v ∧ w.frozen? ⟨blk, off, none⟩ = false ∧ PRow w v qs ∧ qs.length = (curList b).length ∧
      ∀ w4 cs T g cap m, (w.alloc (.cells cs T)).grownBy w4 v.ownBlock → (v.ownBlock = some g ∨ g = w.heap.size + 1) → g < w4.heap.size → PRow w4 (.slice (some ⟨g, 0, none⟩) m cap) (qs ++ [p]) →
        w4.cell? ⟨blk, off, none⟩ = some v ∧ w4.frozen? ⟨blk, off, none⟩ = false ∧ Put own0 w0 (w4.setCell ⟨blk, off, none⟩ (.slice (some ⟨g, 0, none⟩) m cap)) (ownPut own (.slice (some ⟨g, 0, none⟩) m cap) (curSlot b)) B B0 b ps p line kb n xs := by
  obtain ⟨v, qs, c1, c2, ⟨c3, c4⟩, c5, ⟨sa, c6, c7, c8, c9, c10⟩, c11⟩ := h.at_.push
  obtain ⟨nb, va, h1, h2, h3, h4⟩ := h.st
  have hsp : ∃ blk off, curCell B b ps = ⟨blk, off, none⟩ := by
    unfold curCell
    split
    · exact ⟨_, _, rfl⟩
    · exact ⟨_, _, rfl⟩
  obtain ⟨blk, off, hc⟩ := hsp
  rw [hc] at c1 c2 c6 c11
  have hB := h.at_.base
  have h0 := h.at_.1
  have hlt := (h0 blk sa c6).1
  have hsne : sa ≠ curSlot b := by
    obtain ⟨top, os⟩ := b
    cases os with
    | nil =>
      have : ps = [] := h.at_.empty.1
      subst this
      have e : curCell B ⟨top, []⟩ [] = ⟨B, 4, none⟩ := rfl
      rw [e] at hc
      injection hc with hc _ _
      subst hc
      have := h.at_.2.1
      rw [this] at c6
      injection c6 with c6
      subst c6
      show (0 : Nat) ≠ 2
      decide
    | cons o os =>
      obtain ⟨p0, ps', G, cap, rfl, hln, _, _, _, _, _, _, _, op, _⟩ := h.at_.last
      have e : curCell B ⟨top, o :: os⟩ (p0 :: ps') = ⟨p0, if o.hasOther then 5 else 4, none⟩ := rfl
      rw [e] at hc
      injection hc with hc _ _
      subst hc
      rw [op] at c6
      injection c6 with c6
      subst c6
      unfold curSlot
      simp only
      split <;> omega
  refine ⟨blk, off, v, qs, hc, c1, c2, c3, c4, fun w4 cs T g cap m hgr hat hgl hrow => ?_⟩
  obtain ⟨hp, hbl⟩ := Pushed.of (off := off) (n := m) (cap := cap) c3 c5 h0 (by omega : B0 ≤ w.heap.size) hlt c6 hsne hgr hat hgl
  have hkeep4 : w4.heap[blk]? = w.heap[blk]? := (hgr.block blk (by simp; omega) (fun e => hsne (by have := c5 blk e.symm; rw [c6] at this; injection this))).trans (heap_alloc_old w _ hlt)
  have hpl := (h0 p _ h.pend).1
  have hoth := hp.other c5 hpl (by rw [h.pend]; intro e; injection e; omega) (by show own blk ≠ _; rw [c6, h.pend]; intro e; injection e; omega)
  have hk0 : KeepN 0 0 own (ownPut own (.slice (some ⟨g, 0, none⟩) m cap) (curSlot b)) w _ := hp.keep c5 c6 ⟨.inr (Nat.zero_le _), .inr (Nat.zero_le _)⟩
  have hrow' : PRow (w4.setCell ⟨blk, off, none⟩ (.slice (some ⟨g, 0, none⟩) m cap)) (.slice (some ⟨g, 0, none⟩) m cap) (qs ++ [p]) := by
    refine row_keep hrow (fun k hk => Below.heap_setCell _ _ _ _ (fun e => ?_))
    simp only [Value.ownBlock, Option.some.injEq] at hk
    subst hk
    rcases hat with h9 | h9
    · have := c5 _ h9; have e' : g = blk := e; rw [e', c6] at this; injection this with this; exact hsne this
    · have e' : g = blk := e; omega
  exact ⟨(World.cell?_of_block (a := ⟨blk, off, none⟩) hkeep4).trans c1, (World.frozen?_of_block (a := ⟨blk, off, none⟩) hkeep4).trans c2, c11 _ _ p hp hrow', hoth.1.trans h.pend, h.fr.push hp hbl c5 c6, nb, va, h1, h2, hoth.2.trans h3, hk0.args h4⟩
theorem Put.done {w0 w : World} {own0 own : Owns} {B B0 : Nat} {b : Bld} {ps : List Nat} {p line : Nat} {kb : ByteArray} {n : List UInt8} {xs : List Ex} (h : Put own0 w0 w own B B0 b ps p line kb n xs) (hk : kb.size ≤ 65536) (hl : line ≤ 65537) (ha : ArgOk (txt kb) xs.length) :
    ∃ own', BAt w own' B B0 (b.put (.mk line (txt kb) n xs [] [])) [] ps ∧ ∀ k, k < w0.heap.size → own0 k = none → own' k = none := by
  obtain ⟨nb, va, h1, h2, h3, h4⟩ := h.st
  refine ⟨ownSet own p none, (h.at_.free h.pend).put ?_, fun k hk hn => by
    by_cases e : k = p
    · subst e; exact ownSet_eq
    · rw [ownSet_ne e]; exact h.fr.free k hk hn⟩
  have hlt := (h.at_.1 p _ h.pend).1
  have hw : ∀ k, Foot own w k → Foot (ownSet own p none) w k := fun k hk => ⟨by
    by_cases e : k = p
    · subst e; exact ownSet_eq
    · rw [ownSet_ne e]; exact hk.1, hk.2⟩
  unfold StmAt
  exact ⟨⟨⟨ownSet_eq, hlt⟩, ha⟩, va, .slice none 0 0, .slice none 0 0, false, [], [], ⟨kb, nb, rfl, h1, hk, h2, hl, h3⟩, h4.wider hw (fun k hk => hk.2), ⟨World.ownsRow_nil _ _ _ _, fun k hk => by cases hk⟩, ⟨World.ownsRow_nil _ _ _ _, fun k hk => by cases hk⟩, by unfold StmsAt; rfl, by unfold StmsAt; rfl⟩
theorem Put.opn {w0 w : World} {own0 own : Owns} {B B0 : Nat} {b : Bld} {ps : List Nat} {p line : Nat} {kb : ByteArray} {n : List UInt8} {xs : List Ex} (h : Put own0 w0 w own B B0 b ps p line kb n xs) (hk : kb.size ≤ 65536) (hl : line ≤ 65537) (ha : ArgOk (txt kb) xs.length) :
    ∃ vl rs, w.cell? ⟨B, 7, none⟩ = some vl ∧ w.frozen? ⟨B, 7, none⟩ = false ∧ PRow w vl rs ∧ rs.length = b.open_.length ∧
      ∀ w4 cs T g cap m, (w.alloc (.cells cs T)).grownBy w4 vl.ownBlock → (vl.ownBlock = some g ∨ g = w.heap.size + 1) → g < w4.heap.size → PRow w4 (.slice (some ⟨g, 0, none⟩) m cap) (rs ++ [p]) →
        w4.cell? ⟨B, 7, none⟩ = some vl ∧ w4.frozen? ⟨B, 7, none⟩ = false ∧ Fr own0 w0 (ownPut own (.slice (some ⟨g, 0, none⟩) m cap) 1) (w4.setCell ⟨B, 7, none⟩ (.slice (some ⟨g, 0, none⟩) m cap)) ∧ BAt (w4.setCell ⟨B, 7, none⟩ (.slice (some ⟨g, 0, none⟩) m cap)) (ownPut own (.slice (some ⟨g, 0, none⟩) m cap) 1) B B0 ⟨b.top, ⟨line, txt kb, n, xs, [], [], false⟩ :: b.open_⟩ [] (p :: ps) := by
  obtain ⟨nb, va, h1, h2, h3, h4⟩ := h.st
  have ho : OpnAt w own b.open_.length p ⟨line, txt kb, n, xs, [], [], false⟩ [] :=
    ⟨⟨h.pend, ha⟩, va, .slice none 0 0, .slice none 0 0, [], [], ⟨kb, nb, rfl, h1, hk, h2, hl, h3⟩, h4, ⟨World.ownsRow_nil _ _ _ _, fun k hk => by cases hk⟩, ⟨World.ownsRow_nil _ _ _ _, fun k hk => by cases hk⟩, by unfold StmsAt; rfl, by unfold StmsAt; rfl⟩
  obtain ⟨vl, c1, c2, c3, c4, c5, c6⟩ := h.at_.opened ho
  have hB := h.at_.base
  have h0 := h.at_.1
  have hpl : ps.length = b.open_.length := by
    obtain ⟨_, _, _, _, _, _, _, _, _, h9⟩ := h.at_
    exact h9.len
  refine ⟨vl, ps.reverse, c1, c2, c3, by rw [List.length_reverse, hpl], fun w4 cs T g cap m hgr hat hgl hrow => ?_⟩
  obtain ⟨hp, hbl⟩ := Pushed.of (off := 7) (n := m) (cap := cap) c3 c4 h0 (by omega : B0 ≤ w.heap.size) hB.2 c5 (by decide) hgr hat hgl
  have hkeep4 : w4.heap[B]? = w.heap[B]? := (hgr.block B (by simp; omega) (fun e => by have := c4 B e.symm; rw [c5] at this; cases this)).trans (heap_alloc_old w _ hB.2)
  have hrow' : PRow (w4.setCell ⟨B, 7, none⟩ (.slice (some ⟨g, 0, none⟩) m cap)) (.slice (some ⟨g, 0, none⟩) m cap) (ps.reverse ++ [p]) := by
    refine row_keep hrow (fun k hk => Below.heap_setCell _ _ _ _ (fun e => ?_))
    simp only [Value.ownBlock, Option.some.injEq] at hk
    subst hk
    rcases hat with h9 | h9
    · have := c4 _ h9; have e' : g = B := e; rw [e', c5] at this; cases this
    · have e' : g = B := e; omega
  exact ⟨(World.cell?_of_block (a := ⟨B, 7, none⟩) hkeep4).trans c1, (World.frozen?_of_block (a := ⟨B, 7, none⟩) hkeep4).trans c2, h.fr.push hp hbl c4 c5, c6 _ _ hp hrow'⟩
theorem one_new_set (w : World) (a : Addr) (v u : Value) (T : TypeId) : ∀ j x, [u][j]? = some x → ((w.setCell a v).alloc (.cells #[u] T)).cell? ((⟨w.heap.size, 0, none⟩ : Addr).add j) = some x := by
  have := one_new (w.setCell a v) u T
  rwa [size_set] at this
theorem prow_snoc {w : World} {v : Value} {qs : List Nat} {p : Nat} (h : w.ownsRow 0 168 1 v (qs.length + 1) (qs.map ptr ++ [ptr p])) : PRow w v (qs ++ [p]) := by
  unfold PRow; simpa using h
theorem RetAdd.bool {w w' : World} {own : Owns} {B B0 : Nat} {r : Option Bld} {e : Ending} (h : RetAdd w own B B0 r e w') : ∃ b, e = .returned (.bool b) := by
  unfold RetAdd at h
  cases r with
  | none => exact ⟨_, h.2⟩
  | some x => exact ⟨_, h.2.1⟩
set_option maxRecDepth 100000 in
set_option maxHeartbeats 8000000 in
theorem add_any {w : World} {own : Owns} {B B0 : Nat} {b : Bld} {ps : List Nat} {line : Nat} {wv : Value} {ss : List ByteArray} {l : List (List UInt8)} (hb : BAt w own B B0 b [] ps) (h16 : b.open_.length ≤ 16) (hcl : (curList b).length ≤ 65536) (hr : SRow w wv ss) (hl : Words ss l) (hne : l ≠ []) (he : ErrR w) (ha : Acts w) (hl6 : line ≤ 65537) (h6 : 6 < B0) :
    Calls Tryz.prog 58 #[ptr B, .int .i64 line, wv] w (RetAdd w own B B0 (addL line l b)) := by
  obtain ⟨s0, st, rfl⟩ : ∃ s0 st, ss = s0 :: st := by
    cases ss with
    | nil => exact absurd hl.1.symm hne
    | cons s0 st => exact ⟨s0, st, rfl⟩
  obtain ⟨L, o, c, rfl, hc, hc0, htail⟩ := srow_cons hr
  have hl2 : l = txt s0 :: st.map txt := hl.1.symm
  have h7 := hl.2.2
  have hl' : Words st (st.map txt) := ⟨rfl, fun s hs => hl.2.1 s (by simp [hs]), by simp at h7; omega⟩
  have hs0 := hl.2.1 s0 (by simp)
  have hst7 : st.length ≤ 70000 := hl'.2.2
  obtain ⟨i0, hi, hz0, hz1, hz2⟩ := info_parts info168
  have hB := hb.base
  by_cases hel : txt s0 = sElse ∨ txt s0 = sEnd
  · have e : addL line l b = closeL b l := by rw [hl2]; unfold addL; simp only; rw [if_pos hel]
    rw [e]
    have HC := Lib.hid (close_any hb h16 hr hl hne)
    by_cases h1 : txt s0 = sElse
    · have e1 : (s0.toList == [101, 108, 115, 101]) = true := by rw [lit_str']; exact decide_eq_true h1
      clear hb hr hl htail hl' he ha e hel hne hl2
      go_enter Tryz.func58, Tryz.ntmps58
      go_wp2_with fail
      refine HC.out.mono ?_
      rintro e w' h
      obtain ⟨bb, rfl⟩ := h.bool
      go_wp2_with fail
      go_ret
      exact h
    · have e1 : (s0.toList == [101, 108, 115, 101]) = false := by rw [lit_str']; exact decide_eq_false h1
      have e2 : (s0.toList == [101, 110, 100]) = true := by rw [lit_str']; exact decide_eq_true (hel.resolve_left h1)
      clear hb hr hl htail hl' he ha e hel hne hl2
      go_enter Tryz.func58, Tryz.ntmps58
      go_wp2_with fail
      refine HC.out.mono ?_
      rintro e w' h
      obtain ⟨bb, rfl⟩ := h.bool
      go_wp2_with fail
      go_ret
      exact h
  · have e1 : (s0.toList == [101, 108, 115, 101]) = false := by rw [lit_str']; exact decide_eq_false (fun h => hel (.inl h))
    have e2 : (s0.toList == [101, 110, 100]) = false := by rw [lit_str']; exact decide_eq_false (fun h => hel (.inr h))
    obtain ⟨res, hres⟩ : ∃ res, res = addL line l b := ⟨_, rfl⟩
    rw [← hres]
    have hres2 : res = match partsL (txt s0) (st.map txt) with | none => none | some (n, xs) => if txt s0 = sFor ∨ txt s0 = sIf then (if b.open_.length + 1 ≤ 16 then some { b with open_ := ⟨line, txt s0, n, xs, [], [], false⟩ :: b.open_ } else none) else some (b.put (.mk line (txt s0) n xs [] [])) := by
      rw [hres, hl2]; unfold addL; simp only; rw [if_neg hel]; rfl
    obtain ⟨w1, hw1⟩ : ∃ w1, w1 = w.alloc (.cells #[.int .i64 line, .string s0, .string ⟨#[]⟩, .slice none 0 0, .slice none 0 0, .slice none 0 0, .bool false] 112) := ⟨_, rfl⟩
    have l1 : Below w.heap.size w w1 := by rw [hw1]; exact (Below.refl _ _).alloc (Nat.le_refl _) _
    have b1 : SCells w1 w.heap.size line s0 ⟨#[]⟩ (.slice none 0 0) (.slice none 0 0) (.slice none 0 0) false := by rw [hw1]; exact Blk.new w _ _
    have hp : ∀ a : Addr, (st ≠ [] → a = ⟨L, o + 1, none⟩) → Calls Tryz.prog 100 #[ptr w.heap.size, .slice (some a) st.length (c - 1)] w1 (RetS w1 w.heap.size line s0 (.slice none 0 0) (.slice none 0 0) false (partsL (txt s0) (st.map txt))) := fun a haa =>
      parts_any b1 rfl ((htail a haa).below l1) hl' (he.below l1) (ha.below l1) (by omega)
    have HP := Lib.hid hp
    have HW1 := Lib.hid hw1
    have HRS := Lib.hid hres2
    have HB := Lib.hid hb
    have z1 : w1.heap.size = w.heap.size + 1 := by rw [hw1]; simp
    clear hp hres hres2 htail hr hl hl' he ha b1 hl2 hne hw1 hel hb
    cases hx : partsL (txt s0) (st.map txt) with
    | none =>
      rw [hx] at HP HRS
      have HR := Lib.hid HRS.out
      clear hx
      by_cases hc1 : c - 1 = 0
      · have hst0 : st = [] := List.length_eq_zero_iff.1 (by omega)
        have hc2 : c = 1 := by omega
        subst hst0
        subst hc2
        clear hc1
        go_enter Tryz.func58, Tryz.ntmps58
        go_wp2_with fail
        rw [← HW1.out]
        refine (HP.out _ (fun h => absurd rfl h)).mono ?_
        rintro e w2 ⟨hs, rfl⟩
        go_wp2_with fail
        go_ret
        unfold RetAdd
        rw [HR.out]
        exact ⟨⟨hs.os.trans l1.os, hs.tape.trans l1.tape, hs.output.trans l1.output, Nat.le_trans l1.size hs.size, fun k hk hn => (hs.block k (by omega) (fun e => by have e' : k = w.heap.size := e; omega)).trans (l1.block k hk)⟩, rfl⟩
      · go_enter Tryz.func58, Tryz.ntmps58
        go_wp2_with fail
        rw [← HW1.out]
        refine (HP.out _ (fun h => rfl)).mono ?_
        rintro e w2 ⟨hs, rfl⟩
        go_wp2_with fail
        go_ret
        unfold RetAdd
        rw [HR.out]
        exact ⟨⟨hs.os.trans l1.os, hs.tape.trans l1.tape, hs.output.trans l1.output, Nat.le_trans l1.size hs.size, fun k hk hn => (hs.block k (by omega) (fun e => by have e' : k = w.heap.size := e; omega)).trans (l1.block k hk)⟩, rfl⟩
    | some nx =>
      obtain ⟨n, xs⟩ := nx
      have hok := partsL_ok hx
      rw [hx] at HP HRS
      simp only at HRS
      have HOK := Lib.hid hok
      clear hx hok
      by_cases hc1 : c - 1 = 0
      · have hst0 : st = [] := List.length_eq_zero_iff.1 (by omega)
        have hc2 : c = 1 := by omega
        subst hst0
        subst hc2
        clear hc1
        by_cases hk1 : txt s0 = sFor
        · by_cases hdep : b.open_.length + 1 ≤ 16
          · have e3 : (s0.toList == [102, 111, 114]) = true := by rw [lit_str']; exact decide_eq_true hk1
            have hr : res = some { b with open_ := ⟨line, txt s0, n, xs, [], [], false⟩ :: b.open_ } := by rw [HRS.out, if_pos (.inl hk1), if_pos hdep]
            have HR := Lib.hid hr
            clear hr hk1 
            go_enter Tryz.func58, Tryz.ntmps58
            go_wp2_with fail
            rw [← HW1.out]
            refine (HP.out _ (fun h => absurd rfl h)).mono ?_
            rintro e w2 ⟨hs, rfl, hst⟩
            have P2 := Pend.of HB.out HW1.out hs hst
            clear hs hst
            go_wp2_with fail
            refine (list_any P2.at_ h16).mono ?_
            rintro e w3 ⟨rfl, b3⟩
            have P3 := P2.below b3
            obtain ⟨blk, off, v, qs, hcc, c1, c2, c3, c4, c5⟩ := P3.put
            rw [hcc]
            have C5 := Lib.hid c5
            have hql : qs.length ≤ 65536 := by omega
            have z3 : w.heap.size + 1 ≤ w3.heap.size := by have := b3.size; have := (P2.at_.1 _ _ P2.pend).1; omega
            clear P2 P3 b3 hcc c5 c4
            go_wp2_with (first
              | (at_builtin; refine wpList_append_lies _ rfl _ _ 110 rfl 0 168 i0 (.pointer none) 1 8 Tryz.underlying110 hi hz0 hz1 hz2 rfl (by decide) v qs.length (qs.map ptr) rfl (c3.alloc _) ⟨w3.heap.size, 0, none⟩ 1 1 [ptr w.heap.size] rfl rfl (one_new _ _ _) (by simp [Value.oneCell']) (by decide) (by unfold maxLen; omega) (by omega) (by omega) (w3.heap.size + 1) (by simp) ?_; intro g4 cap4 w4 hown4 hgr4 hat4 hlt4; obtain ⟨x1, x2, x3⟩ := C5.out w4 _ _ g4 cap4 _ hgr4 hat4 hlt4 (prow_snoc hown4); (obtain ⟨nb, va, _, _, x4, _⟩ := x3.st; have x5 := (Blk.cell x4 1).trans (show _ = some (Value.string s0) from rfl); clear x4 hown4 hgr4 hat4 hlt4; obtain ⟨vl, rs, d1, d2, d3, d5, d4⟩ := x3.opn hs0 hl6 HOK.out; have hd : decide ((rs.length : Int) + 1 ≤ 16) = true := decide_eq_true (by omega); have hrl : rs.length ≤ 16 := (by omega); have D4 := Lib.hid d4; have X3 := Lib.hid x3; have z5 : w.heap.size + 1 ≤ (w4.setCell ⟨blk, off, none⟩ (.slice (some ⟨g4, 0, none⟩) (qs.length + 1) cap4)).heap.size := (x3.at_.1 _ _ x3.pend).1; clear d4 d5 x3 C5))
              | (at_builtin; refine wpList_append_lies _ rfl _ _ 110 rfl 0 168 i0 (.pointer none) 1 8 Tryz.underlying110 hi hz0 hz1 hz2 rfl (by decide) vl rs.length (rs.map ptr) rfl (d3.alloc _) ⟨w4.heap.size, 0, none⟩ 1 1 [ptr w.heap.size] rfl rfl (one_new_set _ _ _ _ _) (by simp [Value.oneCell']) (by decide) (by unfold maxLen; omega) (by omega) (by omega) (w4.heap.size + 1) (by simp) ?_; intro g6 cap6 w6 hown6 hgr6 hat6 hlt6; obtain ⟨y1, y2, y3, y4⟩ := D4.out w6 _ _ g6 cap6 _ hgr6 (by rw [size_set]; exact hat6) hlt6 (prow_snoc hown6); have Y3 := Lib.hid y3; have Y4 := Lib.hid y4; clear y3 y4))
            go_ret
            unfold RetAdd
            rw [HR.out]
            exact ⟨Y3.out.st, rfl, _, _, Y4.out, Y3.out.free⟩
          · have e3 : (s0.toList == [102, 111, 114]) = true := by rw [lit_str']; exact decide_eq_true hk1
            have hr : res = none := by rw [HRS.out, if_pos (.inl hk1), if_neg hdep]
            have HR := Lib.hid hr
            clear hr hk1 
            go_enter Tryz.func58, Tryz.ntmps58
            go_wp2_with fail
            rw [← HW1.out]
            refine (HP.out _ (fun h => absurd rfl h)).mono ?_
            rintro e w2 ⟨hs, rfl, hst⟩
            have P2 := Pend.of HB.out HW1.out hs hst
            clear hs hst
            go_wp2_with fail
            refine (list_any P2.at_ h16).mono ?_
            rintro e w3 ⟨rfl, b3⟩
            have P3 := P2.below b3
            obtain ⟨blk, off, v, qs, hcc, c1, c2, c3, c4, c5⟩ := P3.put
            rw [hcc]
            have C5 := Lib.hid c5
            have hql : qs.length ≤ 65536 := by omega
            have z3 : w.heap.size + 1 ≤ w3.heap.size := by have := b3.size; have := (P2.at_.1 _ _ P2.pend).1; omega
            clear P2 P3 b3 hcc c5 c4
            go_wp2_with (first
              | (at_builtin; refine wpList_append_lies _ rfl _ _ 110 rfl 0 168 i0 (.pointer none) 1 8 Tryz.underlying110 hi hz0 hz1 hz2 rfl (by decide) v qs.length (qs.map ptr) rfl (c3.alloc _) ⟨w3.heap.size, 0, none⟩ 1 1 [ptr w.heap.size] rfl rfl (one_new _ _ _) (by simp [Value.oneCell']) (by decide) (by unfold maxLen; omega) (by omega) (by omega) (w3.heap.size + 1) (by simp) ?_; intro g4 cap4 w4 hown4 hgr4 hat4 hlt4; obtain ⟨x1, x2, x3⟩ := C5.out w4 _ _ g4 cap4 _ hgr4 hat4 hlt4 (prow_snoc hown4); (obtain ⟨nb, va, _, _, x4, _⟩ := x3.st; have x5 := (Blk.cell x4 1).trans (show _ = some (Value.string s0) from rfl); clear x4 hown4 hgr4 hat4 hlt4; obtain ⟨vl, rs, d1, d2, d3, d5, d4⟩ := x3.opn hs0 hl6 HOK.out; have hd : decide ((rs.length : Int) + 1 ≤ 16) = false := decide_eq_false (by omega); have hrl : rs.length ≤ 16 := (by omega); have D4 := Lib.hid d4; have X3 := Lib.hid x3; have z5 : w.heap.size + 1 ≤ (w4.setCell ⟨blk, off, none⟩ (.slice (some ⟨g4, 0, none⟩) (qs.length + 1) cap4)).heap.size := (x3.at_.1 _ _ x3.pend).1; clear d4 d5 x3 C5))
              | (at_builtin; refine wpList_append_lies _ rfl _ _ 110 rfl 0 168 i0 (.pointer none) 1 8 Tryz.underlying110 hi hz0 hz1 hz2 rfl (by decide) vl rs.length (rs.map ptr) rfl (d3.alloc _) ⟨w4.heap.size, 0, none⟩ 1 1 [ptr w.heap.size] rfl rfl (one_new_set _ _ _ _ _) (by simp [Value.oneCell']) (by decide) (by unfold maxLen; omega) (by omega) (by omega) (w4.heap.size + 1) (by simp) ?_; intro g6 cap6 w6 hown6 hgr6 hat6 hlt6; obtain ⟨y1, y2, y3, y4⟩ := D4.out w6 _ _ g6 cap6 _ hgr6 (by rw [size_set]; exact hat6) hlt6 (prow_snoc hown6); have Y3 := Lib.hid y3; have Y4 := Lib.hid y4; clear y3 y4))
            go_ret
            unfold RetAdd
            rw [HR.out]
            exact ⟨Y3.out.st, rfl⟩
        · by_cases hk2 : txt s0 = sIf
          · by_cases hdep : b.open_.length + 1 ≤ 16
            · have e3 : (s0.toList == [102, 111, 114]) = false := by rw [lit_str']; exact decide_eq_false hk1
              have e4 : (s0.toList == [105, 102]) = true := by rw [lit_str']; exact decide_eq_true hk2
              have hr : res = some { b with open_ := ⟨line, txt s0, n, xs, [], [], false⟩ :: b.open_ } := by rw [HRS.out, if_pos (.inr hk2), if_pos hdep]
              have HR := Lib.hid hr
              clear hr hk1 hk2
              go_enter Tryz.func58, Tryz.ntmps58
              go_wp2_with fail
              rw [← HW1.out]
              refine (HP.out _ (fun h => absurd rfl h)).mono ?_
              rintro e w2 ⟨hs, rfl, hst⟩
              have P2 := Pend.of HB.out HW1.out hs hst
              clear hs hst
              go_wp2_with fail
              refine (list_any P2.at_ h16).mono ?_
              rintro e w3 ⟨rfl, b3⟩
              have P3 := P2.below b3
              obtain ⟨blk, off, v, qs, hcc, c1, c2, c3, c4, c5⟩ := P3.put
              rw [hcc]
              have C5 := Lib.hid c5
              have hql : qs.length ≤ 65536 := by omega
              have z3 : w.heap.size + 1 ≤ w3.heap.size := by have := b3.size; have := (P2.at_.1 _ _ P2.pend).1; omega
              clear P2 P3 b3 hcc c5 c4
              go_wp2_with (first
                | (at_builtin; refine wpList_append_lies _ rfl _ _ 110 rfl 0 168 i0 (.pointer none) 1 8 Tryz.underlying110 hi hz0 hz1 hz2 rfl (by decide) v qs.length (qs.map ptr) rfl (c3.alloc _) ⟨w3.heap.size, 0, none⟩ 1 1 [ptr w.heap.size] rfl rfl (one_new _ _ _) (by simp [Value.oneCell']) (by decide) (by unfold maxLen; omega) (by omega) (by omega) (w3.heap.size + 1) (by simp) ?_; intro g4 cap4 w4 hown4 hgr4 hat4 hlt4; obtain ⟨x1, x2, x3⟩ := C5.out w4 _ _ g4 cap4 _ hgr4 hat4 hlt4 (prow_snoc hown4); (obtain ⟨nb, va, _, _, x4, _⟩ := x3.st; have x5 := (Blk.cell x4 1).trans (show _ = some (Value.string s0) from rfl); clear x4 hown4 hgr4 hat4 hlt4; obtain ⟨vl, rs, d1, d2, d3, d5, d4⟩ := x3.opn hs0 hl6 HOK.out; have hd : decide ((rs.length : Int) + 1 ≤ 16) = true := decide_eq_true (by omega); have hrl : rs.length ≤ 16 := (by omega); have D4 := Lib.hid d4; have X3 := Lib.hid x3; have z5 : w.heap.size + 1 ≤ (w4.setCell ⟨blk, off, none⟩ (.slice (some ⟨g4, 0, none⟩) (qs.length + 1) cap4)).heap.size := (x3.at_.1 _ _ x3.pend).1; clear d4 d5 x3 C5))
                | (at_builtin; refine wpList_append_lies _ rfl _ _ 110 rfl 0 168 i0 (.pointer none) 1 8 Tryz.underlying110 hi hz0 hz1 hz2 rfl (by decide) vl rs.length (rs.map ptr) rfl (d3.alloc _) ⟨w4.heap.size, 0, none⟩ 1 1 [ptr w.heap.size] rfl rfl (one_new_set _ _ _ _ _) (by simp [Value.oneCell']) (by decide) (by unfold maxLen; omega) (by omega) (by omega) (w4.heap.size + 1) (by simp) ?_; intro g6 cap6 w6 hown6 hgr6 hat6 hlt6; obtain ⟨y1, y2, y3, y4⟩ := D4.out w6 _ _ g6 cap6 _ hgr6 (by rw [size_set]; exact hat6) hlt6 (prow_snoc hown6); have Y3 := Lib.hid y3; have Y4 := Lib.hid y4; clear y3 y4))
              go_ret
              unfold RetAdd
              rw [HR.out]
              exact ⟨Y3.out.st, rfl, _, _, Y4.out, Y3.out.free⟩
            · have e3 : (s0.toList == [102, 111, 114]) = false := by rw [lit_str']; exact decide_eq_false hk1
              have e4 : (s0.toList == [105, 102]) = true := by rw [lit_str']; exact decide_eq_true hk2
              have hr : res = none := by rw [HRS.out, if_pos (.inr hk2), if_neg hdep]
              have HR := Lib.hid hr
              clear hr hk1 hk2
              go_enter Tryz.func58, Tryz.ntmps58
              go_wp2_with fail
              rw [← HW1.out]
              refine (HP.out _ (fun h => absurd rfl h)).mono ?_
              rintro e w2 ⟨hs, rfl, hst⟩
              have P2 := Pend.of HB.out HW1.out hs hst
              clear hs hst
              go_wp2_with fail
              refine (list_any P2.at_ h16).mono ?_
              rintro e w3 ⟨rfl, b3⟩
              have P3 := P2.below b3
              obtain ⟨blk, off, v, qs, hcc, c1, c2, c3, c4, c5⟩ := P3.put
              rw [hcc]
              have C5 := Lib.hid c5
              have hql : qs.length ≤ 65536 := by omega
              have z3 : w.heap.size + 1 ≤ w3.heap.size := by have := b3.size; have := (P2.at_.1 _ _ P2.pend).1; omega
              clear P2 P3 b3 hcc c5 c4
              go_wp2_with (first
                | (at_builtin; refine wpList_append_lies _ rfl _ _ 110 rfl 0 168 i0 (.pointer none) 1 8 Tryz.underlying110 hi hz0 hz1 hz2 rfl (by decide) v qs.length (qs.map ptr) rfl (c3.alloc _) ⟨w3.heap.size, 0, none⟩ 1 1 [ptr w.heap.size] rfl rfl (one_new _ _ _) (by simp [Value.oneCell']) (by decide) (by unfold maxLen; omega) (by omega) (by omega) (w3.heap.size + 1) (by simp) ?_; intro g4 cap4 w4 hown4 hgr4 hat4 hlt4; obtain ⟨x1, x2, x3⟩ := C5.out w4 _ _ g4 cap4 _ hgr4 hat4 hlt4 (prow_snoc hown4); (obtain ⟨nb, va, _, _, x4, _⟩ := x3.st; have x5 := (Blk.cell x4 1).trans (show _ = some (Value.string s0) from rfl); clear x4 hown4 hgr4 hat4 hlt4; obtain ⟨vl, rs, d1, d2, d3, d5, d4⟩ := x3.opn hs0 hl6 HOK.out; have hd : decide ((rs.length : Int) + 1 ≤ 16) = false := decide_eq_false (by omega); have hrl : rs.length ≤ 16 := (by omega); have D4 := Lib.hid d4; have X3 := Lib.hid x3; have z5 : w.heap.size + 1 ≤ (w4.setCell ⟨blk, off, none⟩ (.slice (some ⟨g4, 0, none⟩) (qs.length + 1) cap4)).heap.size := (x3.at_.1 _ _ x3.pend).1; clear d4 d5 x3 C5))
                | (at_builtin; refine wpList_append_lies _ rfl _ _ 110 rfl 0 168 i0 (.pointer none) 1 8 Tryz.underlying110 hi hz0 hz1 hz2 rfl (by decide) vl rs.length (rs.map ptr) rfl (d3.alloc _) ⟨w4.heap.size, 0, none⟩ 1 1 [ptr w.heap.size] rfl rfl (one_new_set _ _ _ _ _) (by simp [Value.oneCell']) (by decide) (by unfold maxLen; omega) (by omega) (by omega) (w4.heap.size + 1) (by simp) ?_; intro g6 cap6 w6 hown6 hgr6 hat6 hlt6; obtain ⟨y1, y2, y3, y4⟩ := D4.out w6 _ _ g6 cap6 _ hgr6 (by rw [size_set]; exact hat6) hlt6 (prow_snoc hown6); have Y3 := Lib.hid y3; have Y4 := Lib.hid y4; clear y3 y4))
              go_ret
              unfold RetAdd
              rw [HR.out]
              exact ⟨Y3.out.st, rfl⟩
          · have e3 : (s0.toList == [102, 111, 114]) = false := by rw [lit_str']; exact decide_eq_false hk1
            have e4 : (s0.toList == [105, 102]) = false := by rw [lit_str']; exact decide_eq_false hk2
            have hr : res = some (b.put (.mk line (txt s0) n xs [] [])) := by rw [HRS.out, if_neg (by rintro (h | h); exact hk1 h; exact hk2 h)]
            have hd : decide ((b.open_.length : Int) ≤ 16) = true := decide_eq_true (by omega)
            have HR := Lib.hid hr
            clear hr hk1 hk2
            go_enter Tryz.func58, Tryz.ntmps58
            go_wp2_with fail
            rw [← HW1.out]
            refine (HP.out _ (fun h => absurd rfl h)).mono ?_
            rintro e w2 ⟨hs, rfl, hst⟩
            have P2 := Pend.of HB.out HW1.out hs hst
            clear hs hst
            go_wp2_with fail
            refine (list_any P2.at_ h16).mono ?_
            rintro e w3 ⟨rfl, b3⟩
            have P3 := P2.below b3
            obtain ⟨blk, off, v, qs, hcc, c1, c2, c3, c4, c5⟩ := P3.put
            rw [hcc]
            have C5 := Lib.hid c5
            have hql : qs.length ≤ 65536 := by omega
            have z3 : w.heap.size + 1 ≤ w3.heap.size := by have := b3.size; have := (P2.at_.1 _ _ P2.pend).1; omega
            clear P2 P3 b3 hcc c5 c4
            go_wp2_with (at_builtin; refine wpList_append_lies _ rfl _ _ 110 rfl 0 168 i0 (.pointer none) 1 8 Tryz.underlying110 hi hz0 hz1 hz2 rfl (by decide) v qs.length (qs.map ptr) rfl (c3.alloc _) ⟨w3.heap.size, 0, none⟩ 1 1 [ptr w.heap.size] rfl rfl (one_new _ _ _) (by simp [Value.oneCell']) (by decide) (by unfold maxLen; omega) (by omega) (by omega) (w3.heap.size + 1) (by simp) ?_; intro g4 cap4 w4 hown4 hgr4 hat4 hlt4; obtain ⟨x1, x2, x3⟩ := C5.out w4 _ _ g4 cap4 _ hgr4 hat4 hlt4 (prow_snoc hown4); (obtain ⟨nb, va, _, _, x4, _⟩ := x3.st; have x5 := (Blk.cell x4 1).trans (show _ = some (Value.string s0) from rfl); clear x4 hown4 hgr4 hat4 hlt4; obtain ⟨ba, bc, x6⟩ := x3.at_.blocks))
            go_ret
            unfold RetAdd
            rw [HR.out]
            obtain ⟨o9, h9, h10⟩ := x3.done hs0 hl6 HOK.out
            exact ⟨x3.fr.st, rfl, o9, ps, h9, h10⟩
      · by_cases hk1 : txt s0 = sFor
        · by_cases hdep : b.open_.length + 1 ≤ 16
          · have e3 : (s0.toList == [102, 111, 114]) = true := by rw [lit_str']; exact decide_eq_true hk1
            have hr : res = some { b with open_ := ⟨line, txt s0, n, xs, [], [], false⟩ :: b.open_ } := by rw [HRS.out, if_pos (.inl hk1), if_pos hdep]
            have HR := Lib.hid hr
            clear hr hk1 
            go_enter Tryz.func58, Tryz.ntmps58
            go_wp2_with fail
            rw [← HW1.out]
            refine (HP.out _ (fun h => rfl)).mono ?_
            rintro e w2 ⟨hs, rfl, hst⟩
            have P2 := Pend.of HB.out HW1.out hs hst
            clear hs hst
            go_wp2_with fail
            refine (list_any P2.at_ h16).mono ?_
            rintro e w3 ⟨rfl, b3⟩
            have P3 := P2.below b3
            obtain ⟨blk, off, v, qs, hcc, c1, c2, c3, c4, c5⟩ := P3.put
            rw [hcc]
            have C5 := Lib.hid c5
            have hql : qs.length ≤ 65536 := by omega
            have z3 : w.heap.size + 1 ≤ w3.heap.size := by have := b3.size; have := (P2.at_.1 _ _ P2.pend).1; omega
            clear P2 P3 b3 hcc c5 c4
            go_wp2_with (first
              | (at_builtin; refine wpList_append_lies _ rfl _ _ 110 rfl 0 168 i0 (.pointer none) 1 8 Tryz.underlying110 hi hz0 hz1 hz2 rfl (by decide) v qs.length (qs.map ptr) rfl (c3.alloc _) ⟨w3.heap.size, 0, none⟩ 1 1 [ptr w.heap.size] rfl rfl (one_new _ _ _) (by simp [Value.oneCell']) (by decide) (by unfold maxLen; omega) (by omega) (by omega) (w3.heap.size + 1) (by simp) ?_; intro g4 cap4 w4 hown4 hgr4 hat4 hlt4; obtain ⟨x1, x2, x3⟩ := C5.out w4 _ _ g4 cap4 _ hgr4 hat4 hlt4 (prow_snoc hown4); (obtain ⟨nb, va, _, _, x4, _⟩ := x3.st; have x5 := (Blk.cell x4 1).trans (show _ = some (Value.string s0) from rfl); clear x4 hown4 hgr4 hat4 hlt4; obtain ⟨vl, rs, d1, d2, d3, d5, d4⟩ := x3.opn hs0 hl6 HOK.out; have hd : decide ((rs.length : Int) + 1 ≤ 16) = true := decide_eq_true (by omega); have hrl : rs.length ≤ 16 := (by omega); have D4 := Lib.hid d4; have X3 := Lib.hid x3; have z5 : w.heap.size + 1 ≤ (w4.setCell ⟨blk, off, none⟩ (.slice (some ⟨g4, 0, none⟩) (qs.length + 1) cap4)).heap.size := (x3.at_.1 _ _ x3.pend).1; clear d4 d5 x3 C5))
              | (at_builtin; refine wpList_append_lies _ rfl _ _ 110 rfl 0 168 i0 (.pointer none) 1 8 Tryz.underlying110 hi hz0 hz1 hz2 rfl (by decide) vl rs.length (rs.map ptr) rfl (d3.alloc _) ⟨w4.heap.size, 0, none⟩ 1 1 [ptr w.heap.size] rfl rfl (one_new_set _ _ _ _ _) (by simp [Value.oneCell']) (by decide) (by unfold maxLen; omega) (by omega) (by omega) (w4.heap.size + 1) (by simp) ?_; intro g6 cap6 w6 hown6 hgr6 hat6 hlt6; obtain ⟨y1, y2, y3, y4⟩ := D4.out w6 _ _ g6 cap6 _ hgr6 (by rw [size_set]; exact hat6) hlt6 (prow_snoc hown6); have Y3 := Lib.hid y3; have Y4 := Lib.hid y4; clear y3 y4))
            go_ret
            unfold RetAdd
            rw [HR.out]
            exact ⟨Y3.out.st, rfl, _, _, Y4.out, Y3.out.free⟩
          · have e3 : (s0.toList == [102, 111, 114]) = true := by rw [lit_str']; exact decide_eq_true hk1
            have hr : res = none := by rw [HRS.out, if_pos (.inl hk1), if_neg hdep]
            have HR := Lib.hid hr
            clear hr hk1 
            go_enter Tryz.func58, Tryz.ntmps58
            go_wp2_with fail
            rw [← HW1.out]
            refine (HP.out _ (fun h => rfl)).mono ?_
            rintro e w2 ⟨hs, rfl, hst⟩
            have P2 := Pend.of HB.out HW1.out hs hst
            clear hs hst
            go_wp2_with fail
            refine (list_any P2.at_ h16).mono ?_
            rintro e w3 ⟨rfl, b3⟩
            have P3 := P2.below b3
            obtain ⟨blk, off, v, qs, hcc, c1, c2, c3, c4, c5⟩ := P3.put
            rw [hcc]
            have C5 := Lib.hid c5
            have hql : qs.length ≤ 65536 := by omega
            have z3 : w.heap.size + 1 ≤ w3.heap.size := by have := b3.size; have := (P2.at_.1 _ _ P2.pend).1; omega
            clear P2 P3 b3 hcc c5 c4
            go_wp2_with (first
              | (at_builtin; refine wpList_append_lies _ rfl _ _ 110 rfl 0 168 i0 (.pointer none) 1 8 Tryz.underlying110 hi hz0 hz1 hz2 rfl (by decide) v qs.length (qs.map ptr) rfl (c3.alloc _) ⟨w3.heap.size, 0, none⟩ 1 1 [ptr w.heap.size] rfl rfl (one_new _ _ _) (by simp [Value.oneCell']) (by decide) (by unfold maxLen; omega) (by omega) (by omega) (w3.heap.size + 1) (by simp) ?_; intro g4 cap4 w4 hown4 hgr4 hat4 hlt4; obtain ⟨x1, x2, x3⟩ := C5.out w4 _ _ g4 cap4 _ hgr4 hat4 hlt4 (prow_snoc hown4); (obtain ⟨nb, va, _, _, x4, _⟩ := x3.st; have x5 := (Blk.cell x4 1).trans (show _ = some (Value.string s0) from rfl); clear x4 hown4 hgr4 hat4 hlt4; obtain ⟨vl, rs, d1, d2, d3, d5, d4⟩ := x3.opn hs0 hl6 HOK.out; have hd : decide ((rs.length : Int) + 1 ≤ 16) = false := decide_eq_false (by omega); have hrl : rs.length ≤ 16 := (by omega); have D4 := Lib.hid d4; have X3 := Lib.hid x3; have z5 : w.heap.size + 1 ≤ (w4.setCell ⟨blk, off, none⟩ (.slice (some ⟨g4, 0, none⟩) (qs.length + 1) cap4)).heap.size := (x3.at_.1 _ _ x3.pend).1; clear d4 d5 x3 C5))
              | (at_builtin; refine wpList_append_lies _ rfl _ _ 110 rfl 0 168 i0 (.pointer none) 1 8 Tryz.underlying110 hi hz0 hz1 hz2 rfl (by decide) vl rs.length (rs.map ptr) rfl (d3.alloc _) ⟨w4.heap.size, 0, none⟩ 1 1 [ptr w.heap.size] rfl rfl (one_new_set _ _ _ _ _) (by simp [Value.oneCell']) (by decide) (by unfold maxLen; omega) (by omega) (by omega) (w4.heap.size + 1) (by simp) ?_; intro g6 cap6 w6 hown6 hgr6 hat6 hlt6; obtain ⟨y1, y2, y3, y4⟩ := D4.out w6 _ _ g6 cap6 _ hgr6 (by rw [size_set]; exact hat6) hlt6 (prow_snoc hown6); have Y3 := Lib.hid y3; have Y4 := Lib.hid y4; clear y3 y4))
            go_ret
            unfold RetAdd
            rw [HR.out]
            exact ⟨Y3.out.st, rfl⟩
        · by_cases hk2 : txt s0 = sIf
          · by_cases hdep : b.open_.length + 1 ≤ 16
            · have e3 : (s0.toList == [102, 111, 114]) = false := by rw [lit_str']; exact decide_eq_false hk1
              have e4 : (s0.toList == [105, 102]) = true := by rw [lit_str']; exact decide_eq_true hk2
              have hr : res = some { b with open_ := ⟨line, txt s0, n, xs, [], [], false⟩ :: b.open_ } := by rw [HRS.out, if_pos (.inr hk2), if_pos hdep]
              have HR := Lib.hid hr
              clear hr hk1 hk2
              go_enter Tryz.func58, Tryz.ntmps58
              go_wp2_with fail
              rw [← HW1.out]
              refine (HP.out _ (fun h => rfl)).mono ?_
              rintro e w2 ⟨hs, rfl, hst⟩
              have P2 := Pend.of HB.out HW1.out hs hst
              clear hs hst
              go_wp2_with fail
              refine (list_any P2.at_ h16).mono ?_
              rintro e w3 ⟨rfl, b3⟩
              have P3 := P2.below b3
              obtain ⟨blk, off, v, qs, hcc, c1, c2, c3, c4, c5⟩ := P3.put
              rw [hcc]
              have C5 := Lib.hid c5
              have hql : qs.length ≤ 65536 := by omega
              have z3 : w.heap.size + 1 ≤ w3.heap.size := by have := b3.size; have := (P2.at_.1 _ _ P2.pend).1; omega
              clear P2 P3 b3 hcc c5 c4
              go_wp2_with (first
                | (at_builtin; refine wpList_append_lies _ rfl _ _ 110 rfl 0 168 i0 (.pointer none) 1 8 Tryz.underlying110 hi hz0 hz1 hz2 rfl (by decide) v qs.length (qs.map ptr) rfl (c3.alloc _) ⟨w3.heap.size, 0, none⟩ 1 1 [ptr w.heap.size] rfl rfl (one_new _ _ _) (by simp [Value.oneCell']) (by decide) (by unfold maxLen; omega) (by omega) (by omega) (w3.heap.size + 1) (by simp) ?_; intro g4 cap4 w4 hown4 hgr4 hat4 hlt4; obtain ⟨x1, x2, x3⟩ := C5.out w4 _ _ g4 cap4 _ hgr4 hat4 hlt4 (prow_snoc hown4); (obtain ⟨nb, va, _, _, x4, _⟩ := x3.st; have x5 := (Blk.cell x4 1).trans (show _ = some (Value.string s0) from rfl); clear x4 hown4 hgr4 hat4 hlt4; obtain ⟨vl, rs, d1, d2, d3, d5, d4⟩ := x3.opn hs0 hl6 HOK.out; have hd : decide ((rs.length : Int) + 1 ≤ 16) = true := decide_eq_true (by omega); have hrl : rs.length ≤ 16 := (by omega); have D4 := Lib.hid d4; have X3 := Lib.hid x3; have z5 : w.heap.size + 1 ≤ (w4.setCell ⟨blk, off, none⟩ (.slice (some ⟨g4, 0, none⟩) (qs.length + 1) cap4)).heap.size := (x3.at_.1 _ _ x3.pend).1; clear d4 d5 x3 C5))
                | (at_builtin; refine wpList_append_lies _ rfl _ _ 110 rfl 0 168 i0 (.pointer none) 1 8 Tryz.underlying110 hi hz0 hz1 hz2 rfl (by decide) vl rs.length (rs.map ptr) rfl (d3.alloc _) ⟨w4.heap.size, 0, none⟩ 1 1 [ptr w.heap.size] rfl rfl (one_new_set _ _ _ _ _) (by simp [Value.oneCell']) (by decide) (by unfold maxLen; omega) (by omega) (by omega) (w4.heap.size + 1) (by simp) ?_; intro g6 cap6 w6 hown6 hgr6 hat6 hlt6; obtain ⟨y1, y2, y3, y4⟩ := D4.out w6 _ _ g6 cap6 _ hgr6 (by rw [size_set]; exact hat6) hlt6 (prow_snoc hown6); have Y3 := Lib.hid y3; have Y4 := Lib.hid y4; clear y3 y4))
              go_ret
              unfold RetAdd
              rw [HR.out]
              exact ⟨Y3.out.st, rfl, _, _, Y4.out, Y3.out.free⟩
            · have e3 : (s0.toList == [102, 111, 114]) = false := by rw [lit_str']; exact decide_eq_false hk1
              have e4 : (s0.toList == [105, 102]) = true := by rw [lit_str']; exact decide_eq_true hk2
              have hr : res = none := by rw [HRS.out, if_pos (.inr hk2), if_neg hdep]
              have HR := Lib.hid hr
              clear hr hk1 hk2
              go_enter Tryz.func58, Tryz.ntmps58
              go_wp2_with fail
              rw [← HW1.out]
              refine (HP.out _ (fun h => rfl)).mono ?_
              rintro e w2 ⟨hs, rfl, hst⟩
              have P2 := Pend.of HB.out HW1.out hs hst
              clear hs hst
              go_wp2_with fail
              refine (list_any P2.at_ h16).mono ?_
              rintro e w3 ⟨rfl, b3⟩
              have P3 := P2.below b3
              obtain ⟨blk, off, v, qs, hcc, c1, c2, c3, c4, c5⟩ := P3.put
              rw [hcc]
              have C5 := Lib.hid c5
              have hql : qs.length ≤ 65536 := by omega
              have z3 : w.heap.size + 1 ≤ w3.heap.size := by have := b3.size; have := (P2.at_.1 _ _ P2.pend).1; omega
              clear P2 P3 b3 hcc c5 c4
              go_wp2_with (first
                | (at_builtin; refine wpList_append_lies _ rfl _ _ 110 rfl 0 168 i0 (.pointer none) 1 8 Tryz.underlying110 hi hz0 hz1 hz2 rfl (by decide) v qs.length (qs.map ptr) rfl (c3.alloc _) ⟨w3.heap.size, 0, none⟩ 1 1 [ptr w.heap.size] rfl rfl (one_new _ _ _) (by simp [Value.oneCell']) (by decide) (by unfold maxLen; omega) (by omega) (by omega) (w3.heap.size + 1) (by simp) ?_; intro g4 cap4 w4 hown4 hgr4 hat4 hlt4; obtain ⟨x1, x2, x3⟩ := C5.out w4 _ _ g4 cap4 _ hgr4 hat4 hlt4 (prow_snoc hown4); (obtain ⟨nb, va, _, _, x4, _⟩ := x3.st; have x5 := (Blk.cell x4 1).trans (show _ = some (Value.string s0) from rfl); clear x4 hown4 hgr4 hat4 hlt4; obtain ⟨vl, rs, d1, d2, d3, d5, d4⟩ := x3.opn hs0 hl6 HOK.out; have hd : decide ((rs.length : Int) + 1 ≤ 16) = false := decide_eq_false (by omega); have hrl : rs.length ≤ 16 := (by omega); have D4 := Lib.hid d4; have X3 := Lib.hid x3; have z5 : w.heap.size + 1 ≤ (w4.setCell ⟨blk, off, none⟩ (.slice (some ⟨g4, 0, none⟩) (qs.length + 1) cap4)).heap.size := (x3.at_.1 _ _ x3.pend).1; clear d4 d5 x3 C5))
                | (at_builtin; refine wpList_append_lies _ rfl _ _ 110 rfl 0 168 i0 (.pointer none) 1 8 Tryz.underlying110 hi hz0 hz1 hz2 rfl (by decide) vl rs.length (rs.map ptr) rfl (d3.alloc _) ⟨w4.heap.size, 0, none⟩ 1 1 [ptr w.heap.size] rfl rfl (one_new_set _ _ _ _ _) (by simp [Value.oneCell']) (by decide) (by unfold maxLen; omega) (by omega) (by omega) (w4.heap.size + 1) (by simp) ?_; intro g6 cap6 w6 hown6 hgr6 hat6 hlt6; obtain ⟨y1, y2, y3, y4⟩ := D4.out w6 _ _ g6 cap6 _ hgr6 (by rw [size_set]; exact hat6) hlt6 (prow_snoc hown6); have Y3 := Lib.hid y3; have Y4 := Lib.hid y4; clear y3 y4))
              go_ret
              unfold RetAdd
              rw [HR.out]
              exact ⟨Y3.out.st, rfl⟩
          · have e3 : (s0.toList == [102, 111, 114]) = false := by rw [lit_str']; exact decide_eq_false hk1
            have e4 : (s0.toList == [105, 102]) = false := by rw [lit_str']; exact decide_eq_false hk2
            have hr : res = some (b.put (.mk line (txt s0) n xs [] [])) := by rw [HRS.out, if_neg (by rintro (h | h); exact hk1 h; exact hk2 h)]
            have hd : decide ((b.open_.length : Int) ≤ 16) = true := decide_eq_true (by omega)
            have HR := Lib.hid hr
            clear hr hk1 hk2
            go_enter Tryz.func58, Tryz.ntmps58
            go_wp2_with fail
            rw [← HW1.out]
            refine (HP.out _ (fun h => rfl)).mono ?_
            rintro e w2 ⟨hs, rfl, hst⟩
            have P2 := Pend.of HB.out HW1.out hs hst
            clear hs hst
            go_wp2_with fail
            refine (list_any P2.at_ h16).mono ?_
            rintro e w3 ⟨rfl, b3⟩
            have P3 := P2.below b3
            obtain ⟨blk, off, v, qs, hcc, c1, c2, c3, c4, c5⟩ := P3.put
            rw [hcc]
            have C5 := Lib.hid c5
            have hql : qs.length ≤ 65536 := by omega
            have z3 : w.heap.size + 1 ≤ w3.heap.size := by have := b3.size; have := (P2.at_.1 _ _ P2.pend).1; omega
            clear P2 P3 b3 hcc c5 c4
            go_wp2_with (at_builtin; refine wpList_append_lies _ rfl _ _ 110 rfl 0 168 i0 (.pointer none) 1 8 Tryz.underlying110 hi hz0 hz1 hz2 rfl (by decide) v qs.length (qs.map ptr) rfl (c3.alloc _) ⟨w3.heap.size, 0, none⟩ 1 1 [ptr w.heap.size] rfl rfl (one_new _ _ _) (by simp [Value.oneCell']) (by decide) (by unfold maxLen; omega) (by omega) (by omega) (w3.heap.size + 1) (by simp) ?_; intro g4 cap4 w4 hown4 hgr4 hat4 hlt4; obtain ⟨x1, x2, x3⟩ := C5.out w4 _ _ g4 cap4 _ hgr4 hat4 hlt4 (prow_snoc hown4); (obtain ⟨nb, va, _, _, x4, _⟩ := x3.st; have x5 := (Blk.cell x4 1).trans (show _ = some (Value.string s0) from rfl); clear x4 hown4 hgr4 hat4 hlt4; obtain ⟨ba, bc, x6⟩ := x3.at_.blocks))
            go_ret
            unfold RetAdd
            rw [HR.out]
            obtain ⟨o9, h9, h10⟩ := x3.done hs0 hl6 HOK.out
            exact ⟨x3.fr.st, rfl, o9, ps, h9, h10⟩
end Go.Proofs.YtddnmocoaahlfaaGreatDoor
