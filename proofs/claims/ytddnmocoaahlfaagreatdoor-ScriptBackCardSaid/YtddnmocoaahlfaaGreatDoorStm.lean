/-
  The contracts of named and simple. Conditions: the rows of words are of at most 70000 words of at most 65536 bytes; the variable of the range error holds an error or none.
-/
import Derived.Test.YtddnmocoaahlfaaGreatDoorExps
set_option linter.unusedVariables false
set_option linter.unusedSimpArgs false

namespace Go.Proofs.YtddnmocoaahlfaaGreatDoor
open Go.RowKit
theorem ArgsAt.form {w : World} {F : Nat → Prop} {v : Value} {xs : List Ex} (h : ArgsAt w F v xs) : ∃ a n c, v = .slice a n c := by
  obtain ⟨fs, h1, _⟩ := h
  rcases h1.2 with ⟨rfl, _⟩ | ⟨g, cap, cur, rfl, _⟩
  · exact ⟨_, _, _, rfl⟩
  · exact ⟨_, _, _, rfl⟩
/-- The cells of a statement. -/
def SCells (w : World) (p : Nat) (line : Int) (k n : ByteArray) (va vb vo : Value) (ho : Bool) : Prop := Blk w p #[.int .i64 line, .string k, .string n, va, vb, vo, .bool ho] 112
/-- What reading the parts of a statement ends in. -/
def RetS (w : World) (p : Nat) (line : Int) (k : ByteArray) (vb vo : Value) (ho : Bool) (r : Option (List UInt8 × List Ex)) (e : Ending) (w' : World) : Prop := Stays (fun j => j = p) w w' ∧ match r with
  | none => e = .returned (.bool false)
  | some (n, xs) => e = .returned (.bool true) ∧ ∃ nb va, txt nb = n ∧ nb.size ≤ 65536 ∧ SCells w' p line k nb va vb vo ho ∧ ArgsAt w' (New w w') va xs
set_option maxRecDepth 100000 in
set_option maxHeartbeats 4000000 in
theorem simple_any {w : World} {p : Nat} {line : Int} {k n : ByteArray} {va vb vo v : Value} {ho : Bool} {ss : List ByteArray} {l : List (List UInt8)} (hb : SCells w p line k n va vb vo ho) (hn : txt n = []) (hr : SRow w v ss) (hl : Words ss l) (he : ErrR w) (lo hi : Nat) (hlo : lo ≤ 16) (hhi : hi ≤ 16) :
    Calls Tryz.prog 129 #[ptr p, v, .int .i64 lo, .int .i64 hi] w (RetS w p line k vb vo ho (simpleL l lo hi)) := by
  have hlen := hl.len
  have h7 := hl.2.2
  have HX := Lib.hid (exprs_any hr hl he)
  obtain ⟨res, hres⟩ : ∃ res, res = simpleL l lo hi := ⟨_, rfl⟩
  rw [← hres]
  have hv : ∃ a c, v = .slice a ss.length c := by
    rcases hr with ⟨rfl, a, c, rfl⟩ | ⟨_, L, o, c, rfl, _⟩
    · exact ⟨a, c, rfl⟩
    · exact ⟨_, c, rfl⟩
  obtain ⟨a, c, rfl⟩ := hv
  unfold simpleL at hres
  by_cases h1 : l.length < lo
  · rw [if_pos (.inl h1)] at hres
    subst hres
    have d1 : decide ((ss.length : Int) < lo) = true := decide_eq_true (by omega)
    go_enter Tryz.func129, Tryz.ntmps129
    go_wp2_with fail
    go_ret
    exact ⟨.refl _ _, rfl⟩
  · by_cases h2 : hi < l.length
    · rw [if_pos (.inr h2)] at hres
      subst hres
      have d1 : decide ((ss.length : Int) < lo) = false := decide_eq_false (by omega)
      have d2 : decide ((hi : Int) < ss.length) = true := decide_eq_true (by omega)
      go_enter Tryz.func129, Tryz.ntmps129
      go_wp2_with fail
      go_ret
      exact ⟨.refl _ _, rfl⟩
    · rw [if_neg (by omega)] at hres
      have d1 : decide ((ss.length : Int) < lo) = false := decide_eq_false (by omega)
      have d2 : decide ((hi : Int) < ss.length) = false := decide_eq_false (by omega)
      have HS := Lib.hid hres
      clear hres
      cases hx : exprsL l with
      | none =>
        rw [hx] at HX
        have hr : res = none := by rw [HS.out, hx]; rfl
        have HR := Lib.hid hr
        clear hr hx
        go_enter Tryz.func129, Tryz.ntmps129
        go_wp2_with fail
        refine HX.out.mono ?_
        rintro e w1 ⟨b1, rfl⟩
        have hb1 := Blk.below hb b1
        have c3 : w1.cell? ⟨p, 3, none⟩ = some va := (hb1.cell 3).trans rfl
        have f3 := hb1.frozen 3
        go_wp2_with fail
        go_ret
        unfold RetS
        rw [HR.out]
        exact ⟨(Stays.of b1).cell' 3 _, rfl⟩
      | some xs =>
        rw [hx] at HX
        have hr : res = some ([], xs) := by rw [HS.out, hx]; rfl
        have HR := Lib.hid hr
        clear hr hx
        go_enter Tryz.func129, Tryz.ntmps129
        go_wp2_with fail
        refine HX.out.mono ?_
        rintro e w1 ⟨b1, v1, rfl, ha⟩
        obtain ⟨a1, n1, cc1, rfl⟩ := ha.form
        have hb1 := Blk.below hb b1
        have c3 : w1.cell? ⟨p, 3, none⟩ = some va := (hb1.cell 3).trans rfl
        have f3 := hb1.frozen 3
        have hb2 := hb1.set 3 (.slice a1 n1 cc1)
        have hlt := Blk.lt hb
        go_wp2_with fail
        go_ret
        unfold RetS
        rw [HR.out]
        refine ⟨(Stays.of b1).cell' 3 _, rfl, n, _, hn, ?_, hb2, (ha.keep (by rw [size_set]; exact Nat.le_refl _) (fun j hj => Below.heap_setCell _ _ _ _ (fun e => by have := hj.1; have e' : j = p := e; omega))).wider (fun j hj => ⟨hj.1, by rw [size_set]; exact hj.2⟩) (fun j hj => hj.2)⟩
        have h9 : (txt n).length = n.size := by simp
        rw [hn] at h9
        simp at h9
        omega
set_option maxRecDepth 100000 in
set_option maxHeartbeats 4000000 in
theorem named_any {w : World} {p : Nat} {line : Int} {k n : ByteArray} {va vb vo v : Value} {ho : Bool} {ss : List ByteArray} {l : List (List UInt8)} (hb : SCells w p line k n va vb vo ho) (hr : SRow w v ss) (hl : Words ss l) (he : ErrR w) (h6 : p ≠ 6) (many : Nat) (hlo : 1 ≤ many) (hhi : many ≤ 2) :
    Calls Tryz.prog 128 #[ptr p, v, .int .i64 many] w (RetS w p line k vb vo ho (namedL l many)) := by
  have hlen := hl.len
  have h7 := hl.2.2
  obtain ⟨res, hres⟩ : ∃ res, res = namedL l many := ⟨_, rfl⟩
  rw [← hres]
  by_cases h1 : ss.length = many + 1
  · have HSR := Lib.hid hr
    rcases hr with ⟨rfl, _⟩ | ⟨h0, L, o, c, rfl, hc, ⟨cur, z, hblk⟩, hcell⟩
    · simp at h1
    · obtain ⟨s0, st, rfl⟩ := List.exists_cons_of_ne_nil h0
      have hst : st.length = many := by simpa using h1
      have c0 : w.cell? ⟨L, o, none⟩ = some (.string s0) := hcell 0 (by simp)
      have hs0 := hl.2.1 s0 (by simp)
      have HN := Lib.hid (isName_any s0 hs0)
      have hl' : Words st (st.map txt) := ⟨rfl, fun s hs => hl.2.1 s (by simp [hs]), by simp at h7; omega⟩
      have hl2 : l = txt s0 :: st.map txt := hl.1.symm
      have hres2 : res = if isNameL (txt s0) then (exprsL (st.map txt)).map (txt s0, ·) else none := by
        rw [hres, hl2]; unfold namedL
        simp [hst]
      have HS := Lib.hid hres2
      clear hres hres2
      have d1 : ((st.length + 1 : Nat) : Int) = many + 1 := by omega
      simp only [List.length_cons] at *
      cases hnm : isNameL (txt s0) with
      | false =>
        rw [hnm] at HN
        have hr : res = none := by rw [HS.out, hnm]; rfl
        have HR := Lib.hid hr
        clear hr hnm hl2
        go_enter Tryz.func128, Tryz.ntmps128
        go_wp2_with (go_at_call 160; refine (HN.out _).mono ?_; rintro e w1 ⟨rfl, b1⟩)
        go_ret
        unfold RetS
        rw [HR.out]
        exact ⟨.of b1, rfl⟩
      | true =>
        rw [hnm] at HN
        have hpL : p ≠ L := by
          rintro rfl
          unfold SCells Blk at hb
          rw [hblk] at hb
          cases hb
        have hst0 : st ≠ [] := by rintro rfl; simp at hst; omega
        have hsrow : SRow w (.slice (some ⟨L, o + 1, none⟩) st.length (c - 1)) st := HSR.out.cons hst0
        have hcne : ¬ c - 1 = 0 := by omega
        have hplt := Blk.lt hb
        have key : ∀ w1, Below w.heap.size w w1 → Calls Tryz.prog 161 #[.slice (some ⟨L, o + 1, none⟩) st.length (c - 1)] (w1.setCell ⟨p, 2, none⟩ (.string s0)) (RetXs (w1.setCell ⟨p, 2, none⟩ (.string s0)) (exprsL (st.map txt))) := fun w1 b1 => by
          refine exprs_any ?_ hl' ?_
          · exact (hsrow.below b1).stays (M := fun j => j = p) (Stays.cell' (.refl _ w1) 2 _) (fun L' cur' z' hL' e => by
              subst e
              rw [Blk.below hb b1] at hL'
              cases hL')
          · exact (he.below b1).stays (M := fun j => j = p) (Stays.cell' (.refl _ w1) 2 _) (fun e => h6 e.symm)
        rw [hst] at key
        have hss := Stays.cell' (Stays.refl (fun j => j = p) w) 2 (.string s0)
        cases hx : exprsL (st.map txt) with
        | none =>
          have hr : res = none := by rw [HS.out, hnm, hx]; rfl
          have HR := Lib.hid hr
          rw [hx] at key
          have HK := Lib.hid key
          clear key hsrow hr hx hnm hss
          go_enter Tryz.func128, Tryz.ntmps128
          go_wp2_with (go_at_call 160; refine (HN.out _).mono ?_; rintro e w1 ⟨rfl, b1⟩; have g0 := cell_below c0 b1; have gb := Blk.below hb b1; have g2 : w1.cell? ⟨p, 2, none⟩ = some (.string n) := (gb.cell 2).trans rfl; have gf := gb.frozen 2)
          refine (HK.out _ b1).mono ?_
          rintro e w2 ⟨b2, rfl⟩
          have gb2 := Blk.below (gb.set 2 (.string s0)) b2
          have g3 : w2.cell? ⟨p, 3, none⟩ = some va := (gb2.cell 3).trans rfl
          have gf3 := gb2.frozen 3
          have hst2 : Stays (fun j => j = p) w w2 := ((Stays.of b1).cell' 2 _).next b2
          clear gb gb2 g0 g2 gf
          go_wp2_with fail
          go_ret
          unfold RetS
          rw [HR.out]
          exact ⟨hst2.cell' 3 _, rfl⟩
        | some xs =>
          have hr : res = some (txt s0, xs) := by rw [HS.out, hnm, hx]; rfl
          have HR := Lib.hid hr
          rw [hx] at key
          have HK := Lib.hid key
          clear key hsrow hr hx hnm hss
          go_enter Tryz.func128, Tryz.ntmps128
          go_wp2_with (go_at_call 160; refine (HN.out _).mono ?_; rintro e w1 ⟨rfl, b1⟩; have g0 := cell_below c0 b1; have gb := Blk.below hb b1; have g2 : w1.cell? ⟨p, 2, none⟩ = some (.string n) := (gb.cell 2).trans rfl; have gf := gb.frozen 2)
          refine (HK.out _ b1).mono ?_
          rintro e w2 ⟨b2, v1, rfl, ha⟩
          obtain ⟨a1, n1, cc1, rfl⟩ := ha.form
          have gb2 := Blk.below (gb.set 2 (.string s0)) b2
          have g3 : w2.cell? ⟨p, 3, none⟩ = some va := (gb2.cell 3).trans rfl
          have gf3 := gb2.frozen 3
          have hst2 : Stays (fun j => j = p) w w2 := ((Stays.of b1).cell' 2 _).next b2
          have hsz1 : w.heap.size ≤ (w1.setCell ⟨p, 2, none⟩ (.string s0)).heap.size := by rw [size_set]; exact b1.size
          clear gb g0 g2 gf
          go_wp2_with fail
          go_ret
          unfold RetS
          rw [HR.out]
          refine ⟨hst2.cell' 3 _, rfl, s0, _, rfl, hs0, gb2.set 3 _, (ha.keep (by rw [size_set]; exact Nat.le_refl _) (fun j hj => Below.heap_setCell _ _ _ _ (fun e => by have := hj.1; have e' : j = p := e; omega))).wider (fun j hj => ⟨Nat.le_trans hsz1 hj.1, by rw [size_set]; exact hj.2⟩) (fun j hj => hj.2)⟩
  · have hrn : res = none := by
      rw [hres]
      unfold namedL
      cases l with
      | nil => rfl
      | cons a t =>
        simp only
        rw [if_neg]
        intro h
        simp at hlen
        omega
    have HR := Lib.hid hrn
    clear hrn hres
    have hv : ∃ a c, v = .slice a ss.length c := by
      rcases hr with ⟨rfl, a, c, rfl⟩ | ⟨_, L, o, c, rfl, _⟩
      · exact ⟨a, c, rfl⟩
      · exact ⟨_, c, rfl⟩
    obtain ⟨a, c, rfl⟩ := hv
    have d1 : (!((ss.length : Int) == many + 1)) = true := by simp; omega
    go_enter Tryz.func128, Tryz.ntmps128
    go_wp2_with fail
    go_ret
    unfold RetS
    rw [HR.out]
    exact ⟨.refl _ _, rfl⟩
end Go.Proofs.YtddnmocoaahlfaaGreatDoor
