/-
  strings.Split at a separator of one byte, in the language's words; the words of a line. Conditions: texts of at most 65536 bytes; the library's variable holds some int.
-/
import Derived.Test.YtddnmocoaahlfaaGreatDoorStm
import Derived.Test.YtddnmocoaahlfaaGreatDoorMach
import Derived.Shelf.Strings.Split
set_option linter.unusedVariables false
set_option linter.unusedSimpArgs false

namespace Go.Proofs.YtddnmocoaahlfaaGreatDoor
open Go.RowKit Go.Shelf
open Go.Lib in
theorem split_cut (b : UInt8) : ∀ s : List UInt8, splitK [b] 0 (count s [b]) s = cutAt b s
  | [] => by rw [count_one]; rfl
  | c :: t => by
    have ih := split_cut b t
    by_cases hc : c = b
    · subst hc
      have hix : index (c :: t) [c] = 0 := by rw [index]; simp [List.isPrefixOf]
      rw [count_cons_eq, Nat.add_comm, cutAt_cons_eq, ← ih, splitK, hix]
      rfl
    · rw [count_cons_ne c b t hc]
      have hp : ([b] : List UInt8).isPrefixOf (c :: t) = false := by simp [List.isPrefixOf, Ne.symm hc]
      have hix : index (c :: t) [b] = if index t [b] == -1 then -1 else index t [b] + 1 := by rw [index, hp]; simp
      cases hk : count t [b] with
      | zero =>
        rw [hk] at ih
        exact (cutAt_cons_ne hc ih.symm).symm
      | succ k =>
        rw [hk] at ih
        have hge := index_ge t [b]
        by_cases hm : index t [b] = -1
        · rw [count_miss hm] at hk; cases hk
        · obtain ⟨j, hj⟩ : ∃ j : Nat, index t [b] = j := ⟨(index t [b]).toNat, by omega⟩
          have hm' : ¬ (index t [b] == -1) = true := fun e => hm (beq_iff_eq.1 e)
          rw [if_neg hm', hj] at hix
          rw [splitK, if_neg hm', hj] at ih
          rw [cutAt_cons_ne hc ih.symm, splitK, hix, if_neg (by simp; omega)]
          have e1 : ((j : Int) + 1).toNat = j + 1 := by omega
          simp [e1, Nat.add_right_comm]
theorem lit_str' (s : ByteArray) (l : List UInt8) : (s.toList == l) = decide (txt s = l) := by
  rw [ByteArray.toList_eq]
  by_cases h : txt s = l
  · simp [h]
  · simp [h]
/-- The library's variable holds some int. -/
def MaxV (w : World) : Prop := ∃ m : Int, w.cell? ⟨2, 0, none⟩ = some (.int .i64 m)
theorem MaxV.below {w w' : World} (h : MaxV w) (b : Below w.heap.size w w') : MaxV w' := let ⟨m, hm⟩ := h; ⟨m, cell_below hm b⟩
theorem MaxV.base {w w' : World} {b0 : Nat} (h : MaxV w) (h2 : 2 < b0) (b : Below b0 w w') : MaxV w' := let ⟨m, hm⟩ := h; ⟨m, (b.cell (p := ⟨2, 0, none⟩) h2).trans hm⟩
/-- A text is cut at a byte: the pieces lie in a new block. -/
theorem split_any {w : World} (hm : MaxV w) (s : ByteArray) (b : UInt8) (hs : s.size ≤ 65536) :
    Calls Tryz.prog 43 #[.string s, .string ⟨#[b]⟩] w (fun e w' => ∃ ss : List ByteArray, e = .returned (.slice (some ⟨w.heap.size, 0, none⟩) ss.length ss.length) ∧ ss.map txt = cutAt b (txt s) ∧ w' = w.alloc (.cells (ss.map Value.string).toArray 9)) := by
  obtain ⟨m, hm⟩ := hm
  refine (Tryz.strings_Split s ⟨#[b]⟩ m w (by omega) hm (Nat.le_refl 1)).mono ?_
  rintro e w' ⟨rfl, rfl⟩
  refine ⟨Lib.splitB ⟨#[b]⟩ 0 (Lib.countB s ⟨#[b]⟩) s, ?_, ?_, rfl⟩
  · rw [Lib.splitB_all ⟨#[b]⟩ (Nat.le_refl 1) 0 _ s rfl]
  · have := Lib.splitB_data ⟨#[b]⟩ 0 (Lib.countB s ⟨#[b]⟩) s
    exact this.trans (split_cut b (txt s))
theorem info9 : (Tryz.prog.info? 9).map (fun i => (i.zero, i.size, i.bytes)) = some (some (.string ⟨#[]⟩), 1, 16) := by kernel_rfl
theorem srow_of {w : World} {b : Nat} {v : Value} {ss : List ByteArray} (h : w.ownsRow b 9 1 v ss.length (ss.map Value.string)) : SRow w v ss := by
  rcases h.2 with ⟨rfl, h0⟩ | ⟨g, cap, cur, rfl, _, hg, hncap, _⟩
  · exact .inl ⟨List.length_eq_zero_iff.1 h0, _, _, rfl⟩
  · by_cases h0 : ss = []
    · subst h0; exact .inl ⟨rfl, _, _, rfl⟩
    · have hp : 0 < ss.length := List.length_pos_iff.2 h0
      refine .inr ⟨h0, g, 0, cap, rfl, hncap, ⟨cur, _, hg⟩, fun j hj => ?_⟩
      have := row_get h hp j (by simpa using hj)
      rw [Nat.zero_add, this]; simp
theorem cut_len (b : UInt8) : ∀ t : List UInt8, (∀ p ∈ cutAt b t, p.length ≤ t.length) ∧ (cutAt b t).length ≤ t.length + 1
  | [] => ⟨fun p hp => by simp [cutAt] at hp; simp [hp], by simp [cutAt]⟩
  | c :: t => by
    obtain ⟨h1, h2⟩ := cut_len b t
    by_cases hc : c = b
    · subst hc
      rw [cutAt_cons_eq]
      refine ⟨fun p hp => ?_, by simp; omega⟩
      rcases List.mem_cons.1 hp with rfl | hp
      · simp
      · have := h1 p hp; simp; omega
    · have hne := cutAt_ne b t
      obtain ⟨q, qs, hq⟩ := List.exists_cons_of_ne_nil hne
      rw [cutAt_cons_ne hc hq]
      rw [hq] at h1 h2
      refine ⟨fun p hp => ?_, by simp at *; omega⟩
      rcases List.mem_cons.1 hp with rfl | hp
      · have := h1 q (by simp); simp; omega
      · have := h1 p (by simp [hp]); simp; omega
/-- The words among pieces. -/
def wordsOf (ps : List (List UInt8)) : List (List UInt8) := ps.filter (· ≠ [])
theorem wordsOf_skip {ss : List ByteArray} {k : Nat} {x : ByteArray} (h : ss[k]? = some x) (hx : txt x = []) : wordsOf ((ss.drop k).map txt) = wordsOf ((ss.drop (k + 1)).map txt) := by
  obtain ⟨hlt, rfl⟩ := List.getElem?_eq_some_iff.1 h
  rw [List.drop_eq_getElem_cons hlt, List.map_cons]
  unfold wordsOf
  rw [List.filter_cons]
  simp [hx]
theorem wordsOf_take {ss : List ByteArray} {k : Nat} {x : ByteArray} (h : ss[k]? = some x) (hx : txt x ≠ []) : wordsOf ((ss.drop k).map txt) = txt x :: wordsOf ((ss.drop (k + 1)).map txt) := by
  obtain ⟨hlt, rfl⟩ := List.getElem?_eq_some_iff.1 h
  rw [List.drop_eq_getElem_cons hlt, List.map_cons]
  unfold wordsOf
  rw [List.filter_cons]
  simp [hx]
set_option maxRecDepth 100000 in
set_option maxHeartbeats 4000000 in
/-- The words of a line. -/
theorem words_any {w : World} (hm : MaxV w) (s : ByteArray) (hs : s.size ≤ 65536) :
    Calls Tryz.prog 57 #[.string s] w (fun e w' => ∃ v ws, e = .returned v ∧ SRow w' v ws ∧ Words ws (wordsL (txt s)) ∧ Below w.heap.size w w') := by
  obtain ⟨i0, hi, hz0, hz1, hz2⟩ := info_parts info9
  have HS := Lib.hid (split_any hm s 32 hs)
  obtain ⟨res, hres⟩ : ∃ res, res = wordsL (txt s) := ⟨_, rfl⟩
  rw [← hres]
  have hl : (txt s).length = s.size := by simp
  have HL := Lib.hid hl
  clear hl
  have HR := Lib.hid hres
  clear hres
  go_enter Tryz.func57, Tryz.ntmps57
  go_wp2_with fail
  refine HS.out.mono ?_
  rintro e w1 ⟨ss, rfl, hss, hw1⟩
  have b1 : Blk w1 w.heap.size (ss.map Value.string).toArray 9 := by rw [hw1]; exact Blk.new w _ _
  have l1 : Below w.heap.size w w1 := by rw [hw1]; exact (Below.refl _ _).alloc (Nat.le_refl _) _
  have z1 : w1.heap.size = w.heap.size + 1 := by rw [hw1]; simp
  have hcl := cut_len 32 (txt s)
  rw [← hss, HL.out] at hcl
  have hn : ss.length ≤ 65537 := by have := hcl.2; simp at this; omega
  have hsz : ∀ x ∈ ss, x.size ≤ 65536 := fun x hx => by
    have := hcl.1 (txt x) (List.mem_map.2 ⟨x, hx, rfl⟩)
    simp at this
    omega
  have hres : wordsOf (ss.map txt) = res := by rw [HR.out]; unfold wordsL wordsOf; rw [hss]
  have hcur : ∀ k (hk : k < ss.length), w1.cell? ⟨w.heap.size, k, none⟩ = some (.string ss[k]) := fun k hk => by rw [b1.cell k]; simp [hk]
  have HRS := Lib.hid hres
  have HSS := Lib.hid hss
  clear hcl hres hw1 hss HS
  go_wp2_with fail
  go_loopw [9, 3] (fun t v3 wr => ∃ (k : Nat) (ws : List ByteArray), t = .int .i64 k ∧ k ≤ ss.length ∧ wr.ownsRow w.heap.size 9 1 v3 ws.length (ws.map Value.string) ∧ v3.ownBlock ≠ some w.heap.size ∧ ws.map txt ++ wordsOf ((ss.drop k).map txt) = res ∧ ws.length ≤ k ∧ (∀ x ∈ ws, x.size ≤ 65536) ∧ Below w1.heap.size w1 wr) (fun t v3 wr => ss.length - (intOf t).toNat)
  case atStart => exact ⟨0, [], rfl, Nat.zero_le _, World.ownsRow_nil _ _ _ _, by simp [Value.ownBlock], HRS.out, Nat.le_refl _, (fun x hx => by cases hx), Below.refl _ _⟩
  case round =>
    obtain ⟨k, ws, rfl, hk, hown, hvne, hev, hwk, hws, hbl⟩ := hrel
    by_cases hlt : k < ss.length
    · have ck := cell_below (hcur k hlt) hbl
      have hxk : ss[k]? = some ss[k] := List.getElem?_eq_getElem hlt
      have hxs := hsz ss[k] (List.getElem_mem hlt)
      generalize ss[k] = x at *
      have HE := Lib.hid hev
      clear hev
      by_cases hx : txt x = []
      · have hd : (x.toList == []) = true := by rw [lit_str']; exact decide_eq_true hx
        have HX := Lib.hid (wordsOf_skip hxk hx)
        clear hx
        go_wp2_with fail
        go_roundw
        case rel => exact ⟨k + 1, ws, by go_num, by omega, hown, hvne, HX.out ▸ HE.out, by omega, hws, hbl⟩
        case measure => simp [intOf]; omega
      · have hd : (x.toList == []) = false := by rw [lit_str']; exact decide_eq_false hx
        have HX := Lib.hid (wordsOf_take hxk hx)
        clear hx
        have hsz1 := hbl.size
        go_wp2_with (at_builtin; refine wpList_append_lies _ rfl _ _ 27 rfl w.heap.size 9 i0 (.string ⟨#[]⟩) 1 16 Tryz.underlying27 hi hz0 hz1 hz2 rfl (by decide) _ _ _ rfl (hown.alloc _) ⟨wr.heap.size, 0, none⟩ 1 1 [.string x] rfl rfl (one_new _ _ _) (by simp [Value.oneCell']) (by decide) (by unfold maxLen; omega) (by omega) (by simp; omega) _ rfl ?_; intro g cap2 w2 hown2 hgr hat hg2)
        have hbl2 : Below w1.heap.size w1 w2 := (hbl.alloc hsz1 _).grown hgr (by simp; omega) (fun j hj => by have := (hown.lt j hj).1; have : j ≠ w.heap.size := fun e => hvne (e ▸ hj); omega)
        go_wp2_with fail
        go_roundw
        case rel =>
          refine ⟨k + 1, ws ++ [x], by go_num, by omega, by simpa using hown2, ?_, ?_, by simp; omega, ?_, hbl2⟩
          · intro e
            simp only [Value.ownBlock, Option.some.injEq] at e
            rcases hat with h | h
            · exact hvne (h.trans (congrArg some e))
            · simp at h; omega
          · rw [← HE.out, HX.out]; simp
          · intro y hy
            rcases List.mem_append.1 hy with hy | hy
            · exact hws y hy
            · rw [List.mem_singleton.1 hy]; exact hxs
        case measure => simp [intOf]; omega
    · have hkk : k = ss.length := by omega
      have hr : ws.map txt = res := by rw [← hev, List.drop_of_length_le (by omega)]; simp [wordsOf]
      have HR2 := Lib.hid hr
      clear hr hev
      go_wp2_with fail
      go_ret
      exact ⟨_, ws, rfl, srow_of hown, ⟨HR2.out, hws, by omega⟩, l1.trans (hbl.mono (by omega))⟩
end Go.Proofs.YtddnmocoaahlfaaGreatDoor
