/-
  The contracts of named and simple.
  strings.Split at a separator of one byte, in the language's words; the words of a line. Conditions: the rows of words are of at most 70000 words of at most 65536 bytes; the variable of the range error holds an error or none; texts of at most 65536 bytes; the library's variable holds some int.
-/
import Derived.Test.YtddnmocoaahlfaaGreatDoorY29
import Derived.Test.YtddnmocoaahlfaaGreatDoorMach
import Derived.Shelf.Strings.Split
set_option linter.unusedVariables false
set_option linter.unusedSimpArgs false
set_option maxRecDepth 100000
set_option maxHeartbeats 4000000
namespace Go.Proofs.YtddnmocoaahlfaaGreatDoor
open Go.RowKit
theorem ArgsAt.form {w : World} {F : Nat → Prop} {v : Value} {xs : List Ex} (h : ArgsAt w F v xs) : ∃ a n c, v = .slice a n c := by
  obtain ⟨fs, h1, _⟩ := h
  rcases h1.2 with ⟨rfl, _⟩ | ⟨g, cap, cur, rfl, _⟩
  · exact ⟨_, _, _, rfl⟩
  · exact ⟨_, _, _, rfl⟩
def SCells (w : World) (p : Nat) (line : Int) (k n : ByteArray) (va vb vo : Value) (ho : Bool) : Prop := Blk w p #[.int .i64 line, .string k, .string n, va, vb, vo, .bool ho] 112
def RetS (w : World) (p : Nat) (line : Int) (k : ByteArray) (vb vo : Value) (ho : Bool) (r : Option (List UInt8 × List Ex)) (e : Ending) (w' : World) : Prop := Stays (fun j => j = p) w w' ∧ match r with
  | none => e = .returned (.bool false)
  | some (n, xs) => e = .returned (.bool true) ∧ ∃ nb va, txt nb = n ∧ nb.size ≤ 65536 ∧ SCells w' p line k nb va vb vo ho ∧ ArgsAt w' (New w w') va xs
theorem simple_any {w : World} {p : Nat} {line : Int} {k n : ByteArray} {va vb vo v : Value} {ho : Bool} {ss : List ByteArray} {l : List (List UInt8)} (hb : SCells w p line k n va vb vo ho) (hn : txt n = []) (hr : SRow w v ss) (hl : Words ss l) (he : ErrR w) (lo hi : Nat) (hlo : lo ≤ 16) (hhi : hi ≤ 16) :
    Calls Tryz.prog 129 #[ptr p, v, .int .i64 lo, .int .i64 hi] w (RetS w p line k vb vo ho (simpleL l lo hi)) := by
  have hlen := hl.len
  have h7 := hl.2.2
  have HX := Lib.hid (exprs_any hr hl he)
  obtain ⟨res, hres⟩ : ∃ res, res = simpleL l lo hi := ⟨_, rfl⟩
  rw [← hres]
  have hv : ∃ a c, v = .slice a ss.length c := by
    rcases hr with ⟨rfl, a, c, rfl⟩ | ⟨_, L, o, c, rfl, _⟩
    · exact ⟨a, c, rfl⟩
    · exact ⟨_, c, rfl⟩
  obtain ⟨a, c, rfl⟩ := hv
  unfold simpleL at hres
  by_cases h1 : l.length < lo
  · rw [if_pos (.inl h1)] at hres
    subst hres
    have d1 : decide ((ss.length : Int) < lo) = true := decide_eq_true (by omega)
    go_enter Tryz.func129, Tryz.ntmps129
    go_wp2_with fail
    go_ret
    exact ⟨.refl _ _, rfl⟩
  · by_cases h2 : hi < l.length
    · rw [if_pos (.inr h2)] at hres
      subst hres
      have d1 : decide ((ss.length : Int) < lo) = false := decide_eq_false (by omega)
      have d2 : decide ((hi : Int) < ss.length) = true := decide_eq_true (by omega)
      go_enter Tryz.func129, Tryz.ntmps129
      go_wp2_with fail
      go_ret
      exact ⟨.refl _ _, rfl⟩
    · rw [if_neg (by omega)] at hres
      have d1 : decide ((ss.length : Int) < lo) = false := decide_eq_false (by omega)
      have d2 : decide ((hi : Int) < ss.length) = false := decide_eq_false (by omega)
      have HS := Lib.hid hres
      clear hres
      cases hx : exprsL l with
      | none =>
        rw [hx] at HX
        have hr : res = none := by rw [HS.out, hx]; rfl
        have HR := Lib.hid hr
        clear hr hx
        go_enter Tryz.func129, Tryz.ntmps129
        go_wp2_with fail
        refine HX.out.mono ?_
        rintro e w1 ⟨b1, rfl⟩
        have hb1 := Blk.below hb b1
        have c3 : w1.cell? ⟨p, 3, none⟩ = some va := (hb1.cell 3).trans rfl
        have f3 := hb1.frozen 3
        go_wp2_with fail
        go_ret
        unfold RetS
        rw [HR.out]
        exact ⟨(Stays.of b1).cell' 3 _, rfl⟩
      | some xs =>
        rw [hx] at HX
        have hr : res = some ([], xs) := by rw [HS.out, hx]; rfl
        have HR := Lib.hid hr
        clear hr hx
        go_enter Tryz.func129, Tryz.ntmps129
        go_wp2_with fail
        refine HX.out.mono ?_
        rintro e w1 ⟨b1, v1, rfl, ha⟩
        obtain ⟨a1, n1, cc1, rfl⟩ := ha.form
        have hb1 := Blk.below hb b1
        have c3 : w1.cell? ⟨p, 3, none⟩ = some va := (hb1.cell 3).trans rfl
        have f3 := hb1.frozen 3
        have hb2 := hb1.set 3 (.slice a1 n1 cc1)
        have hlt := Blk.lt hb
        go_wp2_with fail
        go_ret
        unfold RetS
        rw [HR.out]
        refine ⟨(Stays.of b1).cell' 3 _, rfl, n, _, hn, ?_, hb2, (ha.keep (by rw [size_set]; exact Nat.le_refl _) (fun j hj => Below.heap_setCell _ _ _ _ (fun e => by have := hj.1; have e' : j = p := e; omega))).wider (fun j hj => ⟨hj.1, by rw [size_set]; exact hj.2⟩) (fun j hj => hj.2)⟩
        have h9 : (txt n).length = n.size := by simp
        rw [hn] at h9
        simp at h9
        omega
theorem named_any {w : World} {p : Nat} {line : Int} {k n : ByteArray} {va vb vo v : Value} {ho : Bool} {ss : List ByteArray} {l : List (List UInt8)} (hb : SCells w p line k n va vb vo ho) (hr : SRow w v ss) (hl : Words ss l) (he : ErrR w) (h6 : p ≠ 6) (many : Nat) (hlo : 1 ≤ many) (hhi : many ≤ 2) :
    Calls Tryz.prog 128 #[ptr p, v, .int .i64 many] w (RetS w p line k vb vo ho (namedL l many)) := by
  have hlen := hl.len
  have h7 := hl.2.2
  obtain ⟨res, hres⟩ : ∃ res, res = namedL l many := ⟨_, rfl⟩
  rw [← hres]
  by_cases h1 : ss.length = many + 1
  · have HSR := Lib.hid hr
    rcases hr with ⟨rfl, _⟩ | ⟨h0, L, o, c, rfl, hc, ⟨cur, z, hblk⟩, hcell⟩
    · simp at h1
    · obtain ⟨s0, st, rfl⟩ := List.exists_cons_of_ne_nil h0
      have hst : st.length = many := by simpa using h1
      have c0 : w.cell? ⟨L, o, none⟩ = some (.string s0) := hcell 0 (by simp)
      have hs0 := hl.2.1 s0 (by simp)
      have HN := Lib.hid (isName_any s0 hs0)
      have hl' : Words st (st.map txt) := ⟨rfl, fun s hs => hl.2.1 s (by simp [hs]), by simp at h7; omega⟩
      have hl2 : l = txt s0 :: st.map txt := hl.1.symm
      have hres2 : res = if isNameL (txt s0) then (exprsL (st.map txt)).map (txt s0, ·) else none := by
        rw [hres, hl2]; unfold namedL
        simp [hst]
      have HS := Lib.hid hres2
      clear hres hres2
      have d1 : ((st.length + 1 : Nat) : Int) = many + 1 := by omega
      simp only [List.length_cons] at *
      cases hnm : isNameL (txt s0) with
      | false =>
        rw [hnm] at HN
        have hr : res = none := by rw [HS.out, hnm]; rfl
        have HR := Lib.hid hr
        clear hr hnm hl2
        go_enter Tryz.func128, Tryz.ntmps128
        go_wp2_with (go_at_call 160; refine (HN.out _).mono ?_; rintro e w1 ⟨rfl, b1⟩)
        go_ret
        unfold RetS
        rw [HR.out]
        exact ⟨.of b1, rfl⟩
      | true =>
        rw [hnm] at HN
        have hpL : p ≠ L := by
          rintro rfl
          unfold SCells Blk at hb
          rw [hblk] at hb
          cases hb
        have hst0 : st ≠ [] := by rintro rfl; simp at hst; omega
        have hsrow : SRow w (.slice (some ⟨L, o + 1, none⟩) st.length (c - 1)) st := HSR.out.cons hst0
        have hcne : ¬ c - 1 = 0 := by omega
        have hplt := Blk.lt hb
        have key : ∀ w1, Below w.heap.size w w1 → Calls Tryz.prog 161 #[.slice (some ⟨L, o + 1, none⟩) st.length (c - 1)] (w1.setCell ⟨p, 2, none⟩ (.string s0)) (RetXs (w1.setCell ⟨p, 2, none⟩ (.string s0)) (exprsL (st.map txt))) := fun w1 b1 => by
          refine exprs_any ?_ hl' ?_
          · exact (hsrow.below b1).stays (M := fun j => j = p) (Stays.cell' (.refl _ w1) 2 _) (fun L' cur' z' hL' e => by
              subst e
              rw [Blk.below hb b1] at hL'
              cases hL')
          · exact (he.below b1).stays (M := fun j => j = p) (Stays.cell' (.refl _ w1) 2 _) (fun e => h6 e.symm)
        rw [hst] at key
        have hss := Stays.cell' (Stays.refl (fun j => j = p) w) 2 (.string s0)
        cases hx : exprsL (st.map txt) with
        | none =>
          have hr : res = none := by rw [HS.out, hnm, hx]; rfl
          have HR := Lib.hid hr
          rw [hx] at key
          have HK := Lib.hid key
          clear key hsrow hr hx hnm hss
          go_enter Tryz.func128, Tryz.ntmps128
          go_wp2_with (go_at_call 160; refine (HN.out _).mono ?_; rintro e w1 ⟨rfl, b1⟩; have g0 := cell_below c0 b1; have gb := Blk.below hb b1; have g2 : w1.cell? ⟨p, 2, none⟩ = some (.string n) := (gb.cell 2).trans rfl; have gf := gb.frozen 2)
          refine (HK.out _ b1).mono ?_
          rintro e w2 ⟨b2, rfl⟩
          have gb2 := Blk.below (gb.set 2 (.string s0)) b2
          have g3 : w2.cell? ⟨p, 3, none⟩ = some va := (gb2.cell 3).trans rfl
          have gf3 := gb2.frozen 3
          have hst2 : Stays (fun j => j = p) w w2 := ((Stays.of b1).cell' 2 _).next b2
          clear gb gb2 g0 g2 gf
          go_wp2_with fail
          go_ret
          unfold RetS
          rw [HR.out]
          exact ⟨hst2.cell' 3 _, rfl⟩
        | some xs =>
          have hr : res = some (txt s0, xs) := by rw [HS.out, hnm, hx]; rfl
          have HR := Lib.hid hr
          rw [hx] at key
          have HK := Lib.hid key
          clear key hsrow hr hx hnm hss
          go_enter Tryz.func128, Tryz.ntmps128
          go_wp2_with (go_at_call 160; refine (HN.out _).mono ?_; rintro e w1 ⟨rfl, b1⟩; have g0 := cell_below c0 b1; have gb := Blk.below hb b1; have g2 : w1.cell? ⟨p, 2, none⟩ = some (.string n) := (gb.cell 2).trans rfl; have gf := gb.frozen 2)
          refine (HK.out _ b1).mono ?_
          rintro e w2 ⟨b2, v1, rfl, ha⟩
          obtain ⟨a1, n1, cc1, rfl⟩ := ha.form
          have gb2 := Blk.below (gb.set 2 (.string s0)) b2
          have g3 : w2.cell? ⟨p, 3, none⟩ = some va := (gb2.cell 3).trans rfl
          have gf3 := gb2.frozen 3
          have hst2 : Stays (fun j => j = p) w w2 := ((Stays.of b1).cell' 2 _).next b2
          have hsz1 : w.heap.size ≤ (w1.setCell ⟨p, 2, none⟩ (.string s0)).heap.size := by rw [size_set]; exact b1.size
          clear gb g0 g2 gf
          go_wp2_with fail
          go_ret
          unfold RetS
          rw [HR.out]
          refine ⟨hst2.cell' 3 _, rfl, s0, _, rfl, hs0, gb2.set 3 _, (ha.keep (by rw [size_set]; exact Nat.le_refl _) (fun j hj => Below.heap_setCell _ _ _ _ (fun e => by have := hj.1; have e' : j = p := e; omega))).wider (fun j hj => ⟨Nat.le_trans hsz1 hj.1, by rw [size_set]; exact hj.2⟩) (fun j hj => hj.2)⟩
  · have hrn : res = none := by
      rw [hres]
      unfold namedL
      cases l with
      | nil => rfl
      | cons a t =>
        simp only
        rw [if_neg]
        intro h
        simp at hlen
        omega
    have HR := Lib.hid hrn
    clear hrn hres
    have hv : ∃ a c, v = .slice a ss.length c := by
      rcases hr with ⟨rfl, a, c, rfl⟩ | ⟨_, L, o, c, rfl, _⟩
      · exact ⟨a, c, rfl⟩
      · exact ⟨_, c, rfl⟩
    obtain ⟨a, c, rfl⟩ := hv
    have d1 : (!((ss.length : Int) == many + 1)) = true := by simp; omega
    go_enter Tryz.func128, Tryz.ntmps128
    go_wp2_with fail
    go_ret
    unfold RetS
    rw [HR.out]
    exact ⟨.refl _ _, rfl⟩
end Go.Proofs.YtddnmocoaahlfaaGreatDoor
namespace Go.Proofs.YtddnmocoaahlfaaGreatDoor
open Go.RowKit Go.Shelf
open Go.Lib in
theorem split_cut (b : UInt8) : ∀ s : List UInt8, splitK [b] 0 (count s [b]) s = cutAt b s
  | [] => by rw [count_one]; rfl
  | c :: t => by
    have ih := split_cut b t
    by_cases hc : c = b
    · subst hc
      have hix : index (c :: t) [c] = 0 := by rw [index]; simp [List.isPrefixOf]
      rw [count_cons_eq, Nat.add_comm, cutAt_cons_eq, ← ih, splitK, hix]
      rfl
    · rw [count_cons_ne c b t hc]
      have hp : ([b] : List UInt8).isPrefixOf (c :: t) = false := by simp [List.isPrefixOf, Ne.symm hc]
      have hix : index (c :: t) [b] = if index t [b] == -1 then -1 else index t [b] + 1 := by rw [index, hp]; simp
      cases hk : count t [b] with
      | zero =>
        rw [hk] at ih
        exact (cutAt_cons_ne hc ih.symm).symm
      | succ k =>
        rw [hk] at ih
        have hge := index_ge t [b]
        by_cases hm : index t [b] = -1
        · rw [count_miss hm] at hk; cases hk
        · obtain ⟨j, hj⟩ : ∃ j : Nat, index t [b] = j := ⟨(index t [b]).toNat, by omega⟩
          have hm' : ¬ (index t [b] == -1) = true := fun e => hm (beq_iff_eq.1 e)
          rw [if_neg hm', hj] at hix
          rw [splitK, if_neg hm', hj] at ih
          rw [cutAt_cons_ne hc ih.symm, splitK, hix, if_neg (by simp; omega)]
          have e1 : ((j : Int) + 1).toNat = j + 1 := by omega
          simp [e1, Nat.add_right_comm]
theorem lit_str' (s : ByteArray) (l : List UInt8) : (s.toList == l) = decide (txt s = l) := by
  rw [ByteArray.toList_eq]
  by_cases h : txt s = l
  · simp [h]
  · simp [h]
def MaxV (w : World) : Prop := ∃ m : Int, w.cell? ⟨2, 0, none⟩ = some (.int .i64 m)
theorem MaxV.below {w w' : World} (h : MaxV w) (b : Below w.heap.size w w') : MaxV w' := let ⟨m, hm⟩ := h; ⟨m, cell_below hm b⟩
theorem MaxV.base {w w' : World} {b0 : Nat} (h : MaxV w) (h2 : 2 < b0) (b : Below b0 w w') : MaxV w' := let ⟨m, hm⟩ := h; ⟨m, (b.cell (p := ⟨2, 0, none⟩) h2).trans hm⟩
theorem split_any {w : World} (hm : MaxV w) (s : ByteArray) (b : UInt8) (hs : s.size ≤ 65536) :
    Calls Tryz.prog 43 #[.string s, .string ⟨#[b]⟩] w (fun e w' => ∃ ss : List ByteArray, e = .returned (.slice (some ⟨w.heap.size, 0, none⟩) ss.length ss.length) ∧ ss.map txt = cutAt b (txt s) ∧ w' = w.alloc (.cells (ss.map Value.string).toArray 9)) := by
  obtain ⟨m, hm⟩ := hm
  refine (Tryz.strings_Split s ⟨#[b]⟩ m w (by omega) hm (Nat.le_refl 1)).mono ?_
  rintro e w' ⟨rfl, rfl⟩
  refine ⟨Lib.splitB ⟨#[b]⟩ 0 (Lib.countB s ⟨#[b]⟩) s, ?_, ?_, rfl⟩
  · rw [Lib.splitB_all ⟨#[b]⟩ (Nat.le_refl 1) 0 _ s rfl]
  · have := Lib.splitB_data ⟨#[b]⟩ 0 (Lib.countB s ⟨#[b]⟩) s
    exact this.trans (split_cut b (txt s))
theorem info9 : (Tryz.prog.info? 9).map (fun i => (i.zero, i.size, i.bytes)) = some (some (.string ⟨#[]⟩), 1, 16) := by kernel_rfl
theorem srow_of {w : World} {b : Nat} {v : Value} {ss : List ByteArray} (h : w.ownsRow b 9 1 v ss.length (ss.map Value.string)) : SRow w v ss := by
  rcases h.2 with ⟨rfl, h0⟩ | ⟨g, cap, cur, rfl, _, hg, hncap, _⟩
  · exact .inl ⟨List.length_eq_zero_iff.1 h0, _, _, rfl⟩
  · by_cases h0 : ss = []
    · subst h0; exact .inl ⟨rfl, _, _, rfl⟩
    · have hp : 0 < ss.length := List.length_pos_iff.2 h0
      refine .inr ⟨h0, g, 0, cap, rfl, hncap, ⟨cur, _, hg⟩, fun j hj => ?_⟩
      have := row_get h hp j (by simpa using hj)
      rw [Nat.zero_add, this]; simp
theorem cut_len (b : UInt8) : ∀ t : List UInt8, (∀ p ∈ cutAt b t, p.length ≤ t.length) ∧ (cutAt b t).length ≤ t.length + 1
  | [] => ⟨fun p hp => by simp [cutAt] at hp; simp [hp], by simp [cutAt]⟩
  | c :: t => by
    obtain ⟨h1, h2⟩ := cut_len b t
    by_cases hc : c = b
    · subst hc
      rw [cutAt_cons_eq]
      refine ⟨fun p hp => ?_, by simp; omega⟩
      rcases List.mem_cons.1 hp with rfl | hp
      · simp
      · have := h1 p hp; simp; omega
    · have hne := cutAt_ne b t
      obtain ⟨q, qs, hq⟩ := List.exists_cons_of_ne_nil hne
      rw [cutAt_cons_ne hc hq]
      rw [hq] at h1 h2
      refine ⟨fun p hp => ?_, by simp at *; omega⟩
      rcases List.mem_cons.1 hp with rfl | hp
      · have := h1 q (by simp); simp; omega
      · have := h1 p (by simp [hp]); simp; omega
def wordsOf (ps : List (List UInt8)) : List (List UInt8) := ps.filter (· ≠ [])
theorem wordsOf_skip {ss : List ByteArray} {k : Nat} {x : ByteArray} (h : ss[k]? = some x) (hx : txt x = []) : wordsOf ((ss.drop k).map txt) = wordsOf ((ss.drop (k + 1)).map txt) := by
  obtain ⟨hlt, rfl⟩ := List.getElem?_eq_some_iff.1 h
  rw [List.drop_eq_getElem_cons hlt, List.map_cons]
  unfold wordsOf
  rw [List.filter_cons]
  simp [hx]
theorem wordsOf_take {ss : List ByteArray} {k : Nat} {x : ByteArray} (h : ss[k]? = some x) (hx : txt x ≠ []) : wordsOf ((ss.drop k).map txt) = txt x :: wordsOf ((ss.drop (k + 1)).map txt) := by
  obtain ⟨hlt, rfl⟩ := List.getElem?_eq_some_iff.1 h
  rw [List.drop_eq_getElem_cons hlt, List.map_cons]
  unfold wordsOf
  rw [List.filter_cons]
  simp [hx]
theorem words_any {w : World} (hm : MaxV w) (s : ByteArray) (hs : s.size ≤ 65536) :
    Calls Tryz.prog 57 #[.string s] w (fun e w' => ∃ v ws, e = .returned v ∧ SRow w' v ws ∧ Words ws (wordsL (txt s)) ∧ Below w.heap.size w w') := by
  obtain ⟨i0, hi, hz0, hz1, hz2⟩ := info_parts info9
  have HS := Lib.hid (split_any hm s 32 hs)
  obtain ⟨res, hres⟩ : ∃ res, res = wordsL (txt s) := ⟨_, rfl⟩
  rw [← hres]
  have hl : (txt s).length = s.size := by simp
  have HL := Lib.hid hl
  clear hl
  have HR := Lib.hid hres
  clear hres
  go_enter Tryz.func57, Tryz.ntmps57
  go_wp2_with fail
  refine HS.out.mono ?_
  rintro e w1 ⟨ss, rfl, hss, hw1⟩
  have b1 : Blk w1 w.heap.size (ss.map Value.string).toArray 9 := by rw [hw1]; exact Blk.new w _ _
  have l1 : Below w.heap.size w w1 := by rw [hw1]; exact (Below.refl _ _).alloc (Nat.le_refl _) _
  have z1 : w1.heap.size = w.heap.size + 1 := by rw [hw1]; simp
  have hcl := cut_len 32 (txt s)
  rw [← hss, HL.out] at hcl
  have hn : ss.length ≤ 65537 := by have := hcl.2; simp at this; omega
  have hsz : ∀ x ∈ ss, x.size ≤ 65536 := fun x hx => by
    have := hcl.1 (txt x) (List.mem_map.2 ⟨x, hx, rfl⟩)
    simp at this
    omega
  have hres : wordsOf (ss.map txt) = res := by rw [HR.out]; unfold wordsL wordsOf; rw [hss]
  have hcur : ∀ k (hk : k < ss.length), w1.cell? ⟨w.heap.size, k, none⟩ = some (.string ss[k]) := fun k hk => by rw [b1.cell k]; simp [hk]
  have HRS := Lib.hid hres
  have HSS := Lib.hid hss
  clear hcl hres hw1 hss HS
  go_wp2_with fail
  go_loopw [9, 3] (fun t v3 wr => ∃ (k : Nat) (ws : List ByteArray), t = .int .i64 k ∧ k ≤ ss.length ∧ wr.ownsRow w.heap.size 9 1 v3 ws.length (ws.map Value.string) ∧ v3.ownBlock ≠ some w.heap.size ∧ ws.map txt ++ wordsOf ((ss.drop k).map txt) = res ∧ ws.length ≤ k ∧ (∀ x ∈ ws, x.size ≤ 65536) ∧ Below w1.heap.size w1 wr) (fun t v3 wr => ss.length - (intOf t).toNat)
  case atStart => exact ⟨0, [], rfl, Nat.zero_le _, World.ownsRow_nil _ _ _ _, by simp [Value.ownBlock], HRS.out, Nat.le_refl _, (fun x hx => by cases hx), Below.refl _ _⟩
  case round =>
    obtain ⟨k, ws, rfl, hk, hown, hvne, hev, hwk, hws, hbl⟩ := hrel
    by_cases hlt : k < ss.length
    · have ck := cell_below (hcur k hlt) hbl
      have hxk : ss[k]? = some ss[k] := List.getElem?_eq_getElem hlt
      have hxs := hsz ss[k] (List.getElem_mem hlt)
      generalize ss[k] = x at *
      have HE := Lib.hid hev
      clear hev
      by_cases hx : txt x = []
      · have hd : (x.toList == []) = true := by rw [lit_str']; exact decide_eq_true hx
        have HX := Lib.hid (wordsOf_skip hxk hx)
        clear hx
        go_wp2_with fail
        go_roundw
        case rel => exact ⟨k + 1, ws, by go_num, by omega, hown, hvne, HX.out ▸ HE.out, by omega, hws, hbl⟩
        case measure => simp [intOf]; omega
      · have hd : (x.toList == []) = false := by rw [lit_str']; exact decide_eq_false hx
        have HX := Lib.hid (wordsOf_take hxk hx)
        clear hx
        have hsz1 := hbl.size
        go_wp2_with (at_builtin; refine wpList_append_lies _ rfl _ _ 27 rfl w.heap.size 9 i0 (.string ⟨#[]⟩) 1 16 Tryz.underlying27 hi hz0 hz1 hz2 rfl (by decide) _ _ _ rfl (hown.alloc _) ⟨wr.heap.size, 0, none⟩ 1 1 [.string x] rfl rfl (one_new _ _ _) (by simp [Value.oneCell']) (by decide) (by unfold maxLen; omega) (by omega) (by simp; omega) _ rfl ?_; intro g cap2 w2 hown2 hgr hat hg2)
        have hbl2 : Below w1.heap.size w1 w2 := (hbl.alloc hsz1 _).grown hgr (by simp; omega) (fun j hj => by have := (hown.lt j hj).1; have : j ≠ w.heap.size := fun e => hvne (e ▸ hj); omega)
        go_wp2_with fail
        go_roundw
        case rel =>
          refine ⟨k + 1, ws ++ [x], by go_num, by omega, by simpa using hown2, ?_, ?_, by simp; omega, ?_, hbl2⟩
          · intro e
            simp only [Value.ownBlock, Option.some.injEq] at e
            rcases hat with h | h
            · exact hvne (h.trans (congrArg some e))
            · simp at h; omega
          · rw [← HE.out, HX.out]; simp
          · intro y hy
            rcases List.mem_append.1 hy with hy | hy
            · exact hws y hy
            · rw [List.mem_singleton.1 hy]; exact hxs
        case measure => simp [intOf]; omega
    · have hkk : k = ss.length := by omega
      have hr : ws.map txt = res := by rw [← hev, List.drop_of_length_le (by omega)]; simp [wordsOf]
      have HR2 := Lib.hid hr
      clear hr hev
      go_wp2_with fail
      go_ret
      exact ⟨_, ws, rfl, srow_of hown, ⟨HR2.out, hws, by omega⟩, l1.trans (hbl.mono (by omega))⟩
end Go.Proofs.YtddnmocoaahlfaaGreatDoor
