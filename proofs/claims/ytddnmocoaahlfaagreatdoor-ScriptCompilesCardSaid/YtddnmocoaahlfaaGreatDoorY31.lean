/-
  The reading of a script in memory: the tables, the words of the lines, the open lines.
  The reading of a script in memory: a line is put in, an open line is put on and taken off.
  The reference's ReadScript: its ends. No condition.
-/
import Derived.Test.YtddnmocoaahlfaaGreatDoorY35
import Derived.Test.YtddnmocoaahlfaaGreatDoorY34
import Derived.Test.YtddnmocoaahlfaaGreatDoorCmN
set_option linter.unusedVariables false
set_option linter.unusedSimpArgs false
namespace Go.Proofs.YtddnmocoaahlfaaGreatDoor
open Go.RowKit Go.Shelf
abbrev ints (l : List Int) : Array Value := (l.map fun n => Value.int .i64 n).toArray
structure RsAt (w wr : World) (b4 P GE GL nL : Nat) (Wv ov : Value) (wv : List Value) (Ws : List (List (List UInt8))) (ei li : List Int) (js : List Nat) : Prop where
  bl : Below w.heap.size w wr
  page : Blk wr P #[Wv, .slice (some ⟨GE, 0, none⟩) nL nL, .slice (some ⟨GL, 0, none⟩) nL nL] 126
  eb : Blk wr GE (ints ei) 3
  lb : Blk wr GL (ints li) 3
  elen : ei.length = nL
  llen : li.length = nL
  low : w.heap.size ≤ P ∧ w.heap.size ≤ GE ∧ w.heap.size ≤ GL ∧ P < b4 ∧ GE < b4 ∧ GL < b4 ∧ GE ≠ GL ∧ b4 ≤ wr.heap.size
  wrow : wr.ownsRow b4 27 1 Wv Ws.length wv
  lines : ∀ i, i < Ws.length → ∃ (v : Value) (ss : List ByteArray), wv[i]? = some v ∧ wr.ownsRow b4 9 1 v ss.length (ss.map Value.string) ∧ ss.map txt = Ws.getD i [] ∧ ss.length ≤ 65537 ∧ ∀ x ∈ ss, x.size ≤ 65536
  orow : IRow wr b4 ov (js.reverse.map fun j : Nat => (j : Int))
section
variable {w wr wq : World} {b4 P GE GL nL : Nat} {Wv ov : Value} {wv : List Value} {Ws : List (List (List UInt8))} {ei li : List Int} {js : List Nat}
theorem RsAt.below (h : RsAt w wr b4 P GE GL nL Wv ov wv Ws ei li js) (b : Below wr.heap.size wr wq) : RsAt w wq b4 P GE GL nL Wv ov wv Ws ei li js := by
  obtain ⟨h1, h2, h3, h4, h5, h6, ⟨l1, l2, l3, l4, l5, l6, l7, l8⟩, h8, h9, h10⟩ := h
  exact ⟨h1.trans (b.mono h1.size), h2.below b, h3.below b, h4.below b, h5, h6, ⟨l1, l2, l3, l4, l5, l6, l7, Nat.le_trans l8 b.size⟩, own_below h8 b, fun i hi => by
    obtain ⟨v, ss, a1, a2, a3⟩ := h9 i hi
    exact ⟨v, ss, a1, own_below a2 b, a3⟩, own_below h10 b⟩
theorem own_low4 {w w' : World} {b R : Nat} {e : TypeId} {v : Value} {n : Nat} {xs : List Value} (h : w.ownsRow b e 1 v n xs) (hR : R < b) (s : Stays (fun k => k = R) w w') : w'.ownsRow b e 1 v n xs := by
  obtain ⟨h1, h2⟩ := h
  refine ⟨h1, ?_⟩
  rcases h2 with h2 | ⟨g, cap, cur, a1, a2, a3, a4⟩
  · exact .inl h2
  · exact .inr ⟨g, cap, cur, a1, a2, by rw [s.block g (Array.getElem?_eq_some_iff.1 a3).1 (fun e => by have e' : g = R := e; omega)]; exact a3, a4⟩
theorem RsAt.setE (h : RsAt w wr b4 P GE GL nL Wv ov wv Ws ei li js) (j : Nat) (x : Int) : RsAt w (wr.setCell ⟨GE, j, none⟩ (.int .i64 x)) b4 P GE GL nL Wv ov wv Ws (ei.set j x) li js := by
  obtain ⟨h1, h2, h3, h4, h5, h6, ⟨l1, l2, l3, l4, l5, l6, l7, l8⟩, h8, h9, h10⟩ := h
  have s : Stays (fun k => k = GE) wr (wr.setCell ⟨GE, j, none⟩ (.int .i64 x)) := Stays.cell (.refl _ wr) j _
  have hPE : P ≠ GE := fun e => by
    subst e
    unfold Blk at h2 h3
    rw [h3] at h2
    injection h2 with h2
    injection h2 with _ h2
    cases h2
  have he : ints (ei.set j x) = (ints ei).setIfInBounds j (.int .i64 x) := by simp [ints, List.map_set]
  refine ⟨h1.trans (s.below h1.size (fun k hk e => by have e' : k = GE := e; omega)), h2.stays s hPE, by rw [he]; exact h3.set j _, h4.stays s (fun e => l7 e.symm), by simpa using h5, h6, ⟨l1, l2, l3, l4, l5, l6, l7, Nat.le_trans l8 s.size⟩, own_low4 h8 l5 s, fun i hi => ?_, own_low4 h10 l5 s⟩
  obtain ⟨v, ss, a1, a2, a3⟩ := h9 i hi
  exact ⟨v, ss, a1, own_low4 a2 l5 s, a3⟩
theorem RsAt.setL (h : RsAt w wr b4 P GE GL nL Wv ov wv Ws ei li js) (j : Nat) (x : Int) : RsAt w (wr.setCell ⟨GL, j, none⟩ (.int .i64 x)) b4 P GE GL nL Wv ov wv Ws ei (li.set j x) js := by
  obtain ⟨h1, h2, h3, h4, h5, h6, ⟨l1, l2, l3, l4, l5, l6, l7, l8⟩, h8, h9, h10⟩ := h
  have s : Stays (fun k => k = GL) wr (wr.setCell ⟨GL, j, none⟩ (.int .i64 x)) := Stays.cell (.refl _ wr) j _
  have hPE : P ≠ GL := fun e => by
    subst e
    unfold Blk at h2 h4
    rw [h4] at h2
    injection h2 with h2
    injection h2 with _ h2
    cases h2
  have he : ints (li.set j x) = (ints li).setIfInBounds j (.int .i64 x) := by simp [ints, List.map_set]
  refine ⟨h1.trans (s.below h1.size (fun k hk e => by have e' : k = GL := e; omega)), h2.stays s hPE, h3.stays s l7, by rw [he]; exact h4.set j _, h5, by simpa using h6, ⟨l1, l2, l3, l4, l5, l6, l7, Nat.le_trans l8 s.size⟩, own_low4 h8 l6 s, fun i hi => ?_, own_low4 h10 l6 s⟩
  obtain ⟨v, ss, a1, a2, a3⟩ := h9 i hi
  exact ⟨v, ss, a1, own_low4 a2 l6 s, a3⟩
theorem RsAt.pg (h : RsAt w wr b4 P GE GL nL Wv ov wv Ws ei li js) (hn : Ws.length = nL) (h65 : nL ≤ 65537) : Pg wr Wv (.slice (some ⟨GE, 0, none⟩) nL nL) (.slice (some ⟨GL, 0, none⟩) nL nL) (tabs Ws ei li) nL := by
  refine ⟨h65, ?_, ⟨_, _, rfl, fun i hi => ⟨Nat.le_refl _, GE, rfl, ?_⟩⟩, ⟨_, _, rfl, fun i hi => ⟨Nat.le_refl _, GL, rfl, ?_⟩⟩⟩
  · rcases h.wrow.2 with ⟨e, h0⟩ | ⟨g, cap, cur, e, _, a3, a4, _, a6, a7⟩
    · exact ⟨none, 0, by rw [e, ← hn, h0], fun i hi => by omega⟩
    · refine ⟨some ⟨g, 0, none⟩, cap, by rw [e, hn], fun i hi => ⟨by omega, ?_⟩⟩
      obtain ⟨v, ss, b1, b2, b3, b4', b5⟩ := h.lines i (by omega)
      refine ⟨g, v, rfl, ?_, ss, (srow_of b2).rw, b3, b4', b5⟩
      have hb : Blk wr g cur 27 := a3
      rw [hb.cell i]
      have : cur.toList[i]? = some v := by
        rw [← a7, List.getElem?_take] at b1
        split at b1
        · exact b1
        · cases b1
      rw [← Array.getElem?_toList]; exact this
  · rw [h.eb.cell i]
    show (ints ei)[i]? = some (.int .i64 (ei.getD i 0))
    simp [ints, List.getD_eq_getElem?_getD, List.getElem?_eq_getElem (show i < ei.length by have := h.elen; omega)]
  · rw [h.lb.cell i]
    show (ints li)[i]? = some (.int .i64 (li.getD i 0))
    simp [ints, List.getD_eq_getElem?_getD, List.getElem?_eq_getElem (show i < li.length by have := h.llen; omega)]
end
end Go.Proofs.YtddnmocoaahlfaaGreatDoor
namespace Go.Proofs.YtddnmocoaahlfaaGreatDoor
open Go.RowKit Go.Shelf
section
variable {w wr w2 : World} {b4 P GE GL nL : Nat} {Wv ov Wv' ov' : Value} {wv : List Value} {Ws : List (List (List UInt8))} {ei li : List Int} {js : List Nat}
theorem grown_keep {b : Nat} {e : TypeId} {v : Value} {n : Nat} {xs : List Value} {cs : Array Value} {T : TypeId} (hrow : wr.ownsRow b e 1 v n xs) (hgr : (wr.alloc (.cells cs T)).grownBy w2 v.ownBlock) :
    wr.heap.size ≤ w2.heap.size ∧ (∀ k, k < wr.heap.size → k < b → w2.heap[k]? = wr.heap[k]?) ∧ (∀ (k : Nat) (cur : Array Value) (T' : TypeId) (z : Nat × Nat), T' ≠ e → wr.heap[k]? = some (.cells cur T' z) → w2.heap[k]? = wr.heap[k]?) ∧ w2.os = wr.os ∧ w2.tape = wr.tape ∧ w2.output = wr.output := by
  have keep : ∀ k, k < wr.heap.size → v.ownBlock ≠ some k → w2.heap[k]? = wr.heap[k]? := fun k hk hne => (hgr.block k (by simp; omega) (fun e => hne e.symm)).trans (heap_alloc_old wr _ hk)
  refine ⟨by have := hgr.size; simp at this; omega, fun k hk hb => keep k hk (fun e => by have := (hrow.lt k e).1; omega), fun k cur T' z hT h => keep k (Array.getElem?_eq_some_iff.1 h).1 (fun e => by
    obtain ⟨cur', h'⟩ := row_type hrow e
    rw [h] at h'
    injection h' with h'
    injection h' with _ h'
    exact hT h'), hgr.os, hgr.tape, hgr.output⟩
theorem blk_same {R : Nat} {cs : Array Value} {T : TypeId} (h : Blk wr R cs T) (e : w2.heap[R]? = wr.heap[R]?) : Blk w2 R cs T := by unfold Blk at *; rw [e]; exact h
theorem RsAt.wpush (h : RsAt w wr b4 P GE GL nL Wv ov wv Ws ei li js) {cs : Array Value} {v : Value} {wd : List (List UInt8)} {ss : List ByteArray} (hgr : (wr.alloc (.cells cs 27)).grownBy w2 Wv.ownBlock) (hown : w2.ownsRow b4 27 1 Wv' (Ws.length + 1) (wv ++ [v])) (hv : wr.ownsRow b4 9 1 v ss.length (ss.map Value.string)) (ht : ss.map txt = wd) (hl : ss.length ≤ 65537) (hz : ∀ x ∈ ss, x.size ≤ 65536) :
    RsAt w (w2.setCell ⟨P, 0, none⟩ Wv') b4 P GE GL nL Wv' ov (wv ++ [v]) (Ws ++ [wd]) ei li js ∧ Blk w2 P #[Wv, .slice (some ⟨GE, 0, none⟩) nL nL, .slice (some ⟨GL, 0, none⟩) nL nL] 126 ∧ Below w.heap.size w w2 := by
  obtain ⟨h1, h2, h3, h4, h5, h6, ⟨l1, l2, l3, l4, l5, l6, l7, l8⟩, h8, h9, h10⟩ := h
  obtain ⟨hsz, hlo, hty, ho, htp, hou⟩ := grown_keep h8 hgr
  have s : Stays (fun k => k = P) w2 (w2.setCell ⟨P, 0, none⟩ Wv') := Stays.cell (.refl _ w2) 0 _
  have b12 : Below w.heap.size w w2 := ⟨ho.trans h1.os, htp.trans h1.tape, hou.trans h1.output, Nat.le_trans h1.size hsz, fun k hk => (hlo k (by have := h1.size; omega) (by omega)).trans (h1.block k hk)⟩
  have p2 := blk_same h2 (hlo P (by omega) l4)
  have e2 := blk_same h3 (hlo GE (by omega) l5)
  have g2 := blk_same h4 (hlo GL (by omega) l6)
  have hPE : GE ≠ P := fun e => by
    subst e
    unfold Blk at h2 h3
    rw [h3] at h2
    injection h2 with h2
    injection h2 with _ h2
    cases h2
  have hPL : GL ≠ P := fun e => by
    subst e
    unfold Blk at h2 h4
    rw [h4] at h2
    injection h2 with h2
    injection h2 with _ h2
    cases h2
  have hwl : wv.length = Ws.length := by have := h8.1; omega
  refine ⟨⟨b12.trans (s.below b12.size (fun k hk e => by have e' : k = P := e; omega)), p2.set 0 Wv', e2.stays s hPE, g2.stays s hPL, h5, h6, ⟨l1, l2, l3, l4, l5, l6, l7, by have := s.size; omega⟩, ?_, fun i hi => ?_, ?_⟩, p2, b12⟩
  · rw [List.length_append]; exact own_low4 hown l4 s
  · rw [List.length_append] at hi
    by_cases hlt : i < Ws.length
    · obtain ⟨v', ss', a1, a2, a3, a4⟩ := h9 i hlt
      refine ⟨v', ss', ?_, own_low4 (row_typed a2 fun k cur z hk => hty k cur 9 z (by decide) hk) l4 s, ?_, a4⟩
      · rw [List.getElem?_append_left (by omega)]; exact a1
      · rw [a3, getD_push _ _ _ _ hlt]
    · have hi' : i = Ws.length := by simp at hi; omega
      subst hi'
      refine ⟨v, ss, ?_, own_low4 (row_typed hv fun k cur z hk => hty k cur 9 z (by decide) hk) l4 s, ?_, hl, hz⟩
      · rw [← hwl]; simp
      · rw [ht, getD_last]
  · exact own_low4 (row_typed h10 fun k cur z hk => hty k cur 3 z (by decide) hk) l4 s
theorem RsAt.opush (h : RsAt w wr b4 P GE GL nL Wv ov wv Ws ei li js) {cs : Array Value} (j : Nat) (hgr : (wr.alloc (.cells cs 3)).grownBy w2 ov.ownBlock) (hown : w2.ownsRow b4 3 1 ov' (js.length + 1) (((js.reverse.map fun j : Nat => (j : Int)).map fun n => Value.int .i64 n) ++ [.int .i64 (j : Int)])) : RsAt w w2 b4 P GE GL nL Wv ov' wv Ws ei li (j :: js) := by
  obtain ⟨h1, h2, h3, h4, h5, h6, ⟨l1, l2, l3, l4, l5, l6, l7, l8⟩, h8, h9, h10⟩ := h
  obtain ⟨hsz, hlo, hty, ho, htp, hou⟩ := grown_keep h10 hgr
  have b12 : Below w.heap.size w w2 := ⟨ho.trans h1.os, htp.trans h1.tape, hou.trans h1.output, Nat.le_trans h1.size hsz, fun k hk => (hlo k (by have := h1.size; omega) (by omega)).trans (h1.block k hk)⟩
  refine ⟨b12, blk_same h2 (hlo P (by omega) l4), blk_same h3 (hlo GE (by omega) l5), blk_same h4 (hlo GL (by omega) l6), h5, h6, ⟨l1, l2, l3, l4, l5, l6, l7, by omega⟩, row_typed h8 fun k cur z hk => hty k cur 27 z (by decide) hk, fun i hi => ?_, ?_⟩
  · obtain ⟨v', ss', a1, a2, a3⟩ := h9 i hi
    exact ⟨v', ss', a1, row_typed a2 fun k cur z hk => hty k cur 9 z (by decide) hk, a3⟩
  · simpa [IRow, List.reverse_cons, List.map_append] using hown
theorem RsAt.opop {p : Option Addr} {n c j : Nat} (h : RsAt w wr b4 P GE GL nL Wv (.slice p n c) wv Ws ei li (j :: js)) : RsAt w wr b4 P GE GL nL Wv (.slice p (n - 1) c) wv Ws ei li js ∧ n = js.length + 1 := by
  obtain ⟨h1, h2, h3, h4, h5, h6, hlow, h8, h9, h10⟩ := h
  have hn : n = js.length + 1 := by
    rcases h10.2 with ⟨_, h0⟩ | ⟨g, cap, cur, e, _⟩
    · simp at h0
    · injection e with _ e _; simpa using e
  refine ⟨⟨h1, h2, h3, h4, h5, h6, hlow, h8, h9, ?_⟩, hn⟩
  refine ⟨by simp, ?_⟩
  rcases h10.2 with ⟨_, h0⟩ | ⟨g, cap, cur, e, a2, a3, a4, a5, a6, a7⟩
  · simp at h0
  · injection e with e1 e2 e3
    subst e1 e3
    refine .inr ⟨g, c, cur, by rw [hn]; simp, a2, a3, by simp at a4 ⊢; omega, a5, a6, ?_⟩
    have hlen : ((j :: js).reverse.map fun j : Nat => (j : Int)).length = js.length + 1 := by simp
    rw [hlen] at a7
    have : cur.toList.take ((js.reverse.map fun j : Nat => (j : Int)).length * 1) = (cur.toList.take ((js.length + 1) * 1)).take js.length := by
      rw [List.take_take]; congr 1; simp
    rw [this, a7]
    simp
theorem RsAt.otop {j : Nat} (h : RsAt w wr b4 P GE GL nL Wv ov wv Ws ei li (j :: js)) : ∃ G c, ov = .slice (some ⟨G, 0, none⟩) (js.length + 1) c ∧ js.length + 1 ≤ c ∧ b4 ≤ G ∧ wr.cell? ⟨G, js.length, none⟩ = some (.int .i64 (j : Int)) := by
  have h10 := h.orow
  rcases h10.2 with ⟨_, h0⟩ | ⟨g, cap, cur, e, a2, a3, a4, a5, a6, a7⟩
  · simp at h0
  · refine ⟨g, cap, by rw [e]; simp, by simpa using a4, a2, ?_⟩
    have hb : Blk wr g cur 3 := a3
    rw [hb.cell js.length, ← Array.getElem?_toList]
    have hx : (cur.toList.take (((j :: js).reverse.map fun j : Nat => (j : Int)).length * 1))[js.length]? = some (.int .i64 (j : Int)) := by
      rw [a7]; simp
    rw [List.getElem?_take] at hx
    split at hx
    · exact hx
    · cases hx
end
end Go.Proofs.YtddnmocoaahlfaaGreatDoor
namespace Go.Proofs.YtddnmocoaahlfaaGreatDoor
open Go.RowKit Go.Shelf
theorem own_form {w : World} {b : Nat} {e : TypeId} {size : Nat} {v : Value} {n : Nat} {xs : List Value} (h : w.ownsRow b e size v n xs) : ∃ p c, v = .slice p n c := by
  rcases h.2 with ⟨h1, h2⟩ | ⟨g, cap, cur, h1, _⟩
  · exact ⟨none, 0, by rw [h1, h2]⟩
  · exact ⟨_, _, h1⟩
abbrev rsC (Wv : Value) (GE GL nL : Nat) : Array Value := #[Wv, .slice (some ⟨GE, 0, none⟩) nL nL, .slice (some ⟨GL, 0, none⟩) nL nL]
structure RsB0 (w w3 : World) : Prop where
  below : Below w.heap.size w w3
  lt : w.heap.size < w3.heap.size
section
variable {w w3 wx : World} {b4 P GE GL nL : Nat} {Wv ov : Value} {wv : List Value} {Ws : List (List (List UInt8))} {ei li : List Int} {js : List Nat} {t : List UInt8} {c0 : Array Value}
theorem RsB0.of (h : RsB0 w w3) (r : RsAt w3 wx b4 P GE GL nL Wv ov wv Ws ei li js) : Below w.heap.size w (wx.setRow w.heap.size (rsC Wv GE GL nL)) := by
  have l := h.below.trans (r.bl.mono h.below.size)
  exact l.trans ((setRow_stays wx w.heap.size (rsC Wv GE GL nL)).below l.size (fun j hj e => by have e' : j = w.heap.size := e; omega))
theorem rs_bad {k : Nat} {line : Int} (h : RsB0 w w3) (r : RsAt w3 wx b4 P GE GL nL Wv ov wv Ws ei li js) (he : readL 0 (linesL t) ⟨[], []⟩ = .error k) (hl : line = (k : Nat)) :
    RetRS w t (.returned (.tuple #[.agg (rsC Wv GE GL nL), .int .i64 line])) (wx.setRow w.heap.size (rsC Wv GE GL nL)) := by
  refine ⟨h.of r, _, _, _, line, ?_, ⟨_, _, _, rfl⟩, ⟨_, _, _, rfl⟩, rfl, ?_⟩
  · obtain ⟨p, c, e⟩ := own_form r.wrow
    exact ⟨p, _, c, e⟩
  · rw [he]; exact hl
theorem rs_late {b : Bld} {line : Int} (h : RsB0 w w3) (r : RsAt w3 wx b4 P GE GL nL Wv ov wv Ws ei li js) (he : readL 0 (linesL t) ⟨[], []⟩ = .ok b) (ho : b.open_ ≠ []) (hl : line = ((linesL t).length + 1 : Nat)) :
    RetRS w t (.returned (.tuple #[.agg (rsC Wv GE GL nL), .int .i64 line])) (wx.setRow w.heap.size (rsC Wv GE GL nL)) := by
  refine ⟨h.of r, _, _, _, line, ?_, ⟨_, _, _, rfl⟩, ⟨_, _, _, rfl⟩, rfl, ?_⟩
  · obtain ⟨p, c, e⟩ := own_form r.wrow
    exact ⟨p, _, c, e⟩
  · rw [he]
    simp only
    rw [if_pos ho]; exact hl
theorem RsAt.put (h : RsAt w3 wx b4 P GE GL nL Wv ov wv Ws ei li js) {R : Nat} (hR : R < w3.heap.size) (c' : Array Value) : RsAt { wx with heap := #[] } (wx.setRow R c') b4 P GE GL nL Wv ov wv Ws ei li js := by
  obtain ⟨h1, h2, h3, h4, h5, h6, ⟨l1, l2, l3, l4, l5, l6, l7, l8⟩, h8, h9, h10⟩ := h
  have s := setRow_stays wx R c'
  have hRb : R < b4 := by omega
  refine ⟨⟨rfl, rfl, rfl, Nat.zero_le _, fun k hk => absurd hk (Nat.not_lt_zero _)⟩, h2.stays s (by omega), h3.stays s (by omega), h4.stays s (by omega), h5, h6, ⟨Nat.zero_le _, Nat.zero_le _, Nat.zero_le _, l4, l5, l6, l7, Nat.le_trans l8 s.size⟩, own_low4 h8 hRb s, fun i hi => ?_, own_low4 h10 hRb s⟩
  obtain ⟨v, ss, a1, a2, a3⟩ := h9 i hi
  exact ⟨v, ss, a1, own_low4 a2 hRb s, a3⟩
theorem RsAt.lcell (h : RsAt w3 wx b4 P GE GL nL Wv ov wv Ws ei li js) {j : Nat} (hj : j < nL) : wx.cell? ⟨GL, j, none⟩ = some (.int .i64 (li.getD j 0)) := by
  rw [h.lb.cell j]
  show (ints li)[j]? = some (.int .i64 (li.getD j 0))
  simp [ints, List.getD_eq_getElem?_getD, List.getElem?_eq_getElem (show j < li.length by have := h.llen; omega)]
theorem RsAt.ecell (h : RsAt w3 wx b4 P GE GL nL Wv ov wv Ws ei li js) {j : Nat} (hj : j < nL) : wx.cell? ⟨GE, j, none⟩ = some (.int .i64 (ei.getD j 0)) := by
  rw [h.eb.cell j]
  show (ints ei)[j]? = some (.int .i64 (ei.getD j 0))
  simp [ints, List.getD_eq_getElem?_getD, List.getElem?_eq_getElem (show j < ei.length by have := h.elen; omega)]
theorem RsAt.otop2 {G n c j : Nat} (h : RsAt w3 wx b4 P GE GL nL Wv (.slice (some ⟨G, 0, none⟩) n c) wv Ws ei li (j :: js)) : wx.cell? ⟨G, js.length, none⟩ = some (.int .i64 (j : Int)) ∧ js.length + 1 ≤ c := by
  obtain ⟨G', c', e, h1, _, h2⟩ := h.otop
  injection e with e1 e2 e3
  injection e1 with e1
  injection e1 with e1
  subst e1
  subst e3
  exact ⟨h2, h1⟩
theorem RsAt.wcell (h : RsAt w3 wx b4 P GE GL nL Wv ov wv Ws ei li js) {j : Nat} (hj : j < Ws.length) {k : List UInt8} {tl : List (List UInt8)} (hw : Ws.getD j [] = k :: tl) :
    ∃ (G c L o n c2 : Nat) (s0 : ByteArray), Wv = .slice (some ⟨G, 0, none⟩) Ws.length c ∧ Ws.length ≤ c ∧ wx.cell? ⟨G, j, none⟩ = some (.slice (some ⟨L, o, none⟩) n c2) ∧ 0 < n ∧ n ≤ c2 ∧ wx.cell? ⟨L, o, none⟩ = some (.string s0) ∧ txt s0 = k := by
  obtain ⟨v, ss, b1, b2, b3, _⟩ := h.lines j hj
  rw [hw] at b3
  cases ss with
  | nil => cases b3
  | cons s0 st =>
    injection b3 with e1 e2
    rcases (srow_of b2).rw with ⟨e, _⟩ | ⟨_, L, o, c2, rfl, hc2, hcell⟩
    · cases e
    · have h0 := hcell 0 (by simp)
      rcases h.wrow.2 with ⟨e, h00⟩ | ⟨g, cap, cur, e, _, a3, a4, _, a6, a7⟩
      · omega
      · refine ⟨g, cap, L, o, (s0 :: st).length, c2, s0, by rw [e], by omega, ?_, by simp, hc2, h0, e1⟩
        have hb : Blk wx g cur 27 := a3
        rw [hb.cell j, ← Array.getElem?_toList]
        rw [← a7, List.getElem?_take] at b1
        split at b1
        · exact b1
        · cases b1
theorem rs_done {b : Bld} {line : Int} (h : RsB0 w w3) (r : RsAt w3 wx b4 P GE GL nL Wv ov wv Ws ei li []) (he : readL 0 (linesL t) ⟨[], []⟩ = .ok b) (hop : OpenRep (tabs Ws ei li) b.top nL b.open_ []) (hn : Ws.length = nL) (h65 : nL ≤ 65537) (ht : (linesL t).length = nL) (hl : line = 0) :
    RetRS w t (.returned (.tuple #[.agg (rsC Wv GE GL nL), .int .i64 line])) (wx.setRow w.heap.size (rsC Wv GE GL nL)) := by
  have ho : b.open_ = [] := List.length_eq_zero_iff.1 hop.len
  refine ⟨h.of r, _, _, _, line, ?_, ⟨_, _, _, rfl⟩, ⟨_, _, _, rfl⟩, rfl, ?_⟩
  · obtain ⟨p, c, e⟩ := own_form r.wrow
    exact ⟨p, _, c, e⟩
  · rw [he]
    simp only
    rw [if_neg (fun h => h ho), ht]
    rw [ho] at hop
    exact ⟨hl, tabs Ws ei li, (r.put h.lt _).pg hn h65, hop⟩
end
theorem res62 {tmps : Array Value} {w : World} {D : Nat} {cs : Array Value} {v : Value} (h : Blk w D cs 126) (hs : cs.size = 3) (h2 : tmps.getD 2 undef = .pointer (some ⟨D, 0, none⟩)) (h3 : tmps.getD 3 undef = v) :
    (results Tryz.f62 tmps).run Tryz.prog w = .ok (.tuple #[.agg cs, v]) w := by
  have hl := run_loadVar_row w D 126 126 cs (0, 0) _ h Tryz.underlying126 rfl (by rw [size126, hs])
  simp only [results, Tryz.results62, List.mapM_toArray, List.mapM_cons, List.mapM_nil, h2, h3, asAddr, pure_bind, map_eq_pure_bind, bind_assoc, Sem.run_bind, Sem.run_pure, hl, Result.andThen_ok]
  rfl
theorem elem22 : Tryz.prog.underlying 22 = some (.slice (Tryz.prog.elem 22)) := by kernel_rfl
theorem elemz22 (w : World) : (sizeOf (Tryz.prog.elem 22)).run Tryz.prog w = .ok 1 w := by kernel_rfl
theorem init22 (a : Addr) (m c : Nat) (hc : m + 1 ≤ c) (w : World) : (Instr.sliceAt 22 (.slice (some a) (m + 1) c) none (some (.int .i64 (m : Nat))) none).run Tryz.prog w = .ok (.slice (some a) m c) w := by
  rw [run_sliceAt_slice w 22 _ _ _ _ elem22, run_slice_h w 22 _ _ _ elem22 _ _ (by omega) (by omega), elemz22]
  simp [Result.andThen, sliced, Addr.add]
theorem top22 (G m c : Nat) (w : World) : (Instr.indexAt 22 (.slice (some ⟨G, 0, none⟩) (m + 1) c) (.int .i64 ((m : Int) + 1 - 1))).run Tryz.prog w = .ok (.pointer (some ⟨G, 0 + m, none⟩)) w := by
  have e : (m : Int) + 1 - 1 = ((m : Nat) : Int) := by omega
  rw [e]
  exact idx22 (Nat.lt_succ_self m) w
theorem dn_below (w : World) (n : Nat) : Below w.heap.size w (w.drewN n) := ⟨rfl, rfl, rfl, Nat.le_refl _, fun _ _ => rfl⟩
theorem d1_below (w : World) : Below w.heap.size w w.drew := ⟨rfl, rfl, rfl, Nat.le_refl _, fun _ _ => rfl⟩
theorem lit_false {s : ByteArray} {k : List UInt8} (h : txt s ≠ k) : (s.toList == k) = false := by rw [lit_str']; exact decide_eq_false h
theorem lit_true {s : ByteArray} {k : List UInt8} (h : txt s = k) : (s.toList == k) = true := by rw [lit_str']; exact decide_eq_true h
end Go.Proofs.YtddnmocoaahlfaaGreatDoor
