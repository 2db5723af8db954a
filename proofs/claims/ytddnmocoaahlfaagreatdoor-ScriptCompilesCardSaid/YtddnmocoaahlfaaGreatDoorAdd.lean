/-
  The contracts of list, close and add: a line is put into the script that is being read. Conditions: the reader lies as Own says; at most 16 statements are open.
-/
import Derived.Test.YtddnmocoaahlfaaGreatDoorOwn
set_option linter.unusedVariables false
set_option linter.unusedSimpArgs false
set_option maxRecDepth 100000
set_option maxHeartbeats 4000000
namespace Go.Proofs.YtddnmocoaahlfaaGreatDoor
open Go.RowKit Go.Shelf
theorem BAt.base {w : World} {own : Owns} {B B0 : Nat} {b : Bld} {child ps : List Nat} (hb : BAt w own B B0 b child ps) : B0 ≤ B ∧ B < w.heap.size := by
  obtain ⟨h1, h2, _⟩ := hb
  have := h1 B 0 h2
  omega
def RetAdd (w : World) (own : Owns) (B B0 : Nat) (r : Option Bld) (e : Ending) (w' : World) : Prop := Stays (fun k => own k ≠ none) w w' ∧ match r with
  | none => e = .returned (.bool false)
  | some b => e = .returned (.bool true) ∧ ∃ own' ps, BAt w' own' B B0 b [] ps ∧ ∀ k, k < w.heap.size → own k = none → own' k = none
theorem list_any {w : World} {own : Owns} {B B0 : Nat} {b : Bld} {child ps : List Nat} (hb : BAt w own B B0 b child ps) (h16 : b.open_.length ≤ 16) :
    Calls Tryz.prog 101 #[ptr B] w (fun e w' => e = .returned (.pointer (some (curCell B b ps))) ∧ Below w.heap.size w w') := by
  obtain ⟨top, os⟩ := b
  cases os with
  | nil =>
    obtain ⟨rfl, a, c, h7⟩ := hb.empty
    have hc : curCell B ⟨top, []⟩ [] = ⟨B, 4, none⟩ := rfl
    rw [hc]
    go_enter Tryz.func101, Tryz.ntmps101
    go_wp2_with fail
    go_ret
    exact ⟨rfl, Below.refl _ _⟩
  | cons o os =>
    obtain ⟨p, ps', G, cap, rfl, hlen, h7, hf7, hcap, hcm, hG, _, _, _, kb, nb, va, vb, vo, _, _, _, hblk⟩ := hb.last
    have h6 : w.cell? ⟨p, 6, none⟩ = some (.bool o.hasOther) := (Blk.cell hblk 6).trans rfl
    simp only [List.length_cons] at h16
    rw [← hlen] at h16
    cases hho : o.hasOther with
    | true =>
      have hc : curCell B ⟨top, o :: os⟩ (p :: ps') = ⟨p, 5, none⟩ := by unfold curCell; simp [hho]
      rw [hc]
      rw [hho] at h6
      clear hc hho hblk hb hlen
      generalize ps'.length = n at *
      have hwr : IntKind.i64.wrap (n : Int) = n := IntWalk.i64_in _ (by omega)
      go_enter Tryz.func101, Tryz.ntmps101
      go_wp2_with fail
      go_quiet (fail)
      go_wp2_with fail
      go_ret
      exact ⟨rfl, by first | exact Below.refl _ _ | exact drewN_below _ _⟩
    | false =>
      have hc : curCell B ⟨top, o :: os⟩ (p :: ps') = ⟨p, 4, none⟩ := by unfold curCell; simp [hho]
      rw [hc]
      rw [hho] at h6
      clear hc hho hblk hb hlen
      generalize ps'.length = n at *
      have hwr : IntKind.i64.wrap (n : Int) = n := IntWalk.i64_in _ (by omega)
      go_enter Tryz.func101, Tryz.ntmps101
      go_wp2_with fail
      go_quiet (fail)
      go_wp2_with fail
      go_ret
      exact ⟨rfl, by first | exact Below.refl _ _ | exact drewN_below _ _⟩
theorem srow_one {w : World} {v : Value} {s : ByteArray} (h : SRow w v [s]) : ∃ L o c, v = .slice (some ⟨L, o, none⟩) 1 c ∧ 1 ≤ c ∧ w.cell? ⟨L, o, none⟩ = some (.string s) := by
  rcases h with ⟨h0, _⟩ | ⟨_, L, o, c, h1, h2, _, h4⟩
  · cases h0
  · exact ⟨L, o, c, h1, h2, h4 0 (by simp)⟩
theorem close_any {w : World} {own : Owns} {B B0 : Nat} {b : Bld} {ps : List Nat} {wv : Value} {ss : List ByteArray} {l : List (List UInt8)} (hb : BAt w own B B0 b [] ps) (h16 : b.open_.length ≤ 16) (hr : SRow w wv ss) (hl : Words ss l) (hne : l ≠ []) :
    Calls Tryz.prog 99 #[ptr B, wv] w (RetAdd w own B B0 (closeL b l)) := by
  have hlen := hl.len
  have h7n := hl.2.2
  have hss : ss ≠ [] := fun e => hne (by rw [← hl.1, e]; rfl)
  have hform : ∃ L o c, wv = .slice (some ⟨L, o, none⟩) ss.length c := by
    rcases hr with ⟨h0, _⟩ | ⟨_, L, o, c, h1, _⟩
    · exact absurd h0 hss
    · exact ⟨L, o, c, h1⟩
  obtain ⟨res, hres⟩ : ∃ res, res = closeL b l := ⟨_, rfl⟩
  rw [← hres]
  obtain ⟨top, os⟩ := b
  cases os with
  | nil =>
    obtain ⟨rfl, a, c, h7⟩ := hb.empty
    obtain ⟨L, o, c2, rfl⟩ := hform
    have hrn : res = none := hres
    have HR := Lib.hid hrn
    clear hrn hres
    by_cases h1 : ss.length = 1
    · have d1 : (!((ss.length : Int) == 1)) = false := by simp [h1]
      go_enter Tryz.func99, Tryz.ntmps99
      go_wp2_with fail
      go_ret
      unfold RetAdd
      rw [HR.out]
      exact ⟨Stays.refl _ _, rfl⟩
    · have d1 : (!((ss.length : Int) == 1)) = true := by simp; omega
      go_enter Tryz.func99, Tryz.ntmps99
      go_wp2_with fail
      go_ret
      unfold RetAdd
      rw [HR.out]
      exact ⟨Stays.refl _ _, rfl⟩
  | cons o os =>
    obtain ⟨p, ps', G, cap, rfl, hln, h7, hf7, hcap, hcm, hG, oG, oB, oP, kb, nb, va, vb, vo, hk, _, _, hblk⟩ := hb.last
    have c6 : w.cell? ⟨p, 6, none⟩ = some (.bool o.hasOther) := (Blk.cell hblk 6).trans rfl
    have f6 : w.frozen? ⟨p, 6, none⟩ = false := Blk.frozen hblk 6
    have c1 : w.cell? ⟨p, 1, none⟩ = some (.string kb) := (Blk.cell hblk 1).trans rfl
    simp only [List.length_cons] at h16
    rw [← hln] at h16
    have hB := hb.base
    have hBp := hb.1 p _ oP
    by_cases h1 : ss.length = 1
    · obtain ⟨s0, rfl⟩ : ∃ s0, ss = [s0] := by
        match ss, h1 with
        | [s0], _ => exact ⟨s0, rfl⟩
      obtain ⟨L, oo, c2, rfl, hc2, hc0⟩ := srow_one hr
      have hl2 : l = [txt s0] := hl.1.symm
      subst hl2
      by_cases hend : txt s0 = sEnd
      · have e1 : (s0.toList == [101, 110, 100]) = true := by rw [lit_str']; exact decide_eq_true hend
        have hr2 : res = some (Bld.put ⟨top, os⟩ o.toStm) := by
          rw [hres]; unfold closeL
          simp [hend]
        have HR := Lib.hid hr2
        have HB := Lib.hid (hb.closed h7)
        have hbelow : Stays (fun k => own k ≠ none) w (w.setCell ⟨B, 7, none⟩ (.slice (some ⟨G, 0, none⟩) ps'.length cap)) := (Stays.cell (Stays.refl (fun k => k = B) w) 7 _).mono (fun k hk e => by have e' : k = B := e; rw [e', oB]; intro h; cases h)
        have HW := Lib.hid hbelow
        clear hres hr2 hb hbelow hl hr hne hss hform
        generalize ps'.length = n at *
        have hwr : IntKind.i64.wrap (n : Int) = n := IntWalk.i64_in _ (by omega)
        clear hln
        go_enter Tryz.func99, Tryz.ntmps99
        go_wp2_with fail
        go_ret
        unfold RetAdd
        rw [HR.out]
        exact ⟨HW.out, rfl, _, _, HB.out, fun k hk hn => by unfold ownCut; rw [hn]⟩
      · have e1 : (s0.toList == [101, 110, 100]) = false := by rw [lit_str']; exact decide_eq_false hend
        by_cases hif : o.kind = sIf
        · have e2 : (kb.toList == [105, 102]) = true := by rw [lit_str']; exact decide_eq_true (hk.trans hif)
          cases hho : o.hasOther with
          | true =>
            have hr2 : res = none := by
              rw [hres]; unfold closeL
              simp [hend, hif, hho]
            have HR := Lib.hid hr2
            rw [hho] at c6
            clear hres hr2 hb hl hr hne hss hform hho
            generalize ps'.length = n at *
            have hwr : IntKind.i64.wrap (n : Int) = n := IntWalk.i64_in _ (by omega)
            clear hln
            go_enter Tryz.func99, Tryz.ntmps99
            go_wp2_with fail
            go_ret
            unfold RetAdd
            rw [HR.out]
            exact ⟨Stays.refl _ _, rfl⟩
          | false =>
            have hr2 : res = some ⟨top, { o with hasOther := true } :: os⟩ := by
              rw [hres]; unfold closeL
              simp [hend, hif, hho]
            have HR := Lib.hid hr2
            rw [hho] at c6
            have HB := Lib.hid hb.elsed
            have hbelow : Stays (fun k => own k ≠ none) w (w.setCell ⟨p, 6, none⟩ (.bool true)) := (Stays.cell (Stays.refl (fun k => k = p) w) 6 _).mono (fun k hk e => by have e' : k = p := e; rw [e', oP]; intro h; cases h)
            have HW := Lib.hid hbelow
            clear hres hr2 hb hl hr hne hss hform hho hbelow
            generalize ps'.length = n at *
            have hwr : IntKind.i64.wrap (n : Int) = n := IntWalk.i64_in _ (by omega)
            clear hln
            go_enter Tryz.func99, Tryz.ntmps99
            go_wp2_with fail
            go_ret
            unfold RetAdd
            rw [HR.out]
            exact ⟨HW.out, rfl, _, _, HB.out, fun k hk hn => hn⟩
        · have e2 : (kb.toList == [105, 102]) = false := by rw [lit_str']; exact decide_eq_false (fun e => hif (hk.symm.trans e))
          have hr2 : res = none := by
            rw [hres]; unfold closeL
            simp [hend, hif]
          have HR := Lib.hid hr2
          clear hres hr2 hb hl hr hne hss hform
          generalize ps'.length = n at *
          have hwr : IntKind.i64.wrap (n : Int) = n := IntWalk.i64_in _ (by omega)
          clear hln
          go_enter Tryz.func99, Tryz.ntmps99
          go_wp2_with fail
          go_ret
          unfold RetAdd
          rw [HR.out]
          exact ⟨Stays.refl _ _, rfl⟩
    · have d1 : (!((ss.length : Int) == 1)) = true := by simp; omega
      obtain ⟨L, oo, c2, rfl⟩ := hform
      have hr2 : res = none := by
        rw [hres]; unfold closeL
        simp only
        rw [if_pos (by omega)]
      have HR := Lib.hid hr2
      clear hres hr2 hb hl hr hne hss
      generalize ps'.length = n at *
      have hwr : IntKind.i64.wrap (n : Int) = n := IntWalk.i64_in _ (by omega)
      clear hln
      go_enter Tryz.func99, Tryz.ntmps99
      go_wp2_with fail
      go_ret
      unfold RetAdd
      rw [HR.out]
      exact ⟨Stays.refl _ _, rfl⟩
theorem info168 : (Tryz.prog.info? 168).map (fun i => (i.zero, i.size, i.bytes)) = some (some (.pointer none), 1, 8) := by kernel_rfl
theorem Pushed.of {own : Owns} {sl B0 blk off : Nat} {v : Value} {qs : List Nat} {w w4 : World} {cs : Array Value} {T : TypeId} {g n cap : Nat} (hrow : PRow w v qs) (hv : ∀ k, v.ownBlock = some k → own k = some sl) (h0 : ∀ k s, own k = some s → k < w.heap.size ∧ B0 ≤ k) (hB : B0 ≤ w.heap.size)
    (ha : blk < w.heap.size) {sa : Nat} (hsa : own blk = some sa) (hne : sa ≠ sl) (hgr : (w.alloc (.cells cs T)).grownBy w4 v.ownBlock) (hat : v.ownBlock = some g ∨ g = w.heap.size + 1) (hlt : g < w4.heap.size) :
    Pushed own sl ⟨blk, off, none⟩ v (.slice (some ⟨g, 0, none⟩) n cap) w (w4.setCell ⟨blk, off, none⟩ (.slice (some ⟨g, 0, none⟩) n cap)) ∧ Below B0 w (w4.setCell ⟨blk, off, none⟩ (.slice (some ⟨g, 0, none⟩) n cap)) := by
  have hsz : w.heap.size + 1 ≤ w4.heap.size := by have := hgr.size; simpa using this
  have hvb : v.ownBlock ≠ some blk := fun e => hne (by have := hv blk e; rw [hsa] at this; injection this)
  have same : ∀ k, k < w.heap.size → v.ownBlock ≠ some k → w4.heap[k]? = w.heap[k]? := fun k hk hn => (hgr.block k (by simp; omega) (fun e => hn e.symm)).trans (heap_alloc_old w _ hk)
  have b4 : Below B0 w w4 := ⟨hgr.os, hgr.tape, hgr.output, by omega, fun k hk => same k (by omega) (fun e => by have := (h0 k _ (hv k e)).2; omega)⟩
  have hss : (w4.setCell ⟨blk, off, none⟩ (.slice (some ⟨g, 0, none⟩) n cap)).heap.size = w4.heap.size := size_set ..
  refine ⟨⟨by omega, fun k hk hk1 hk2 => (Below.heap_setCell _ _ _ _ hk1).trans (same k hk hk2), fun cs' T' hb => ?_, fun k hk => ?_⟩, ?_⟩
  · have hb4 : Blk w4 blk cs' T' := (same blk ha hvb).trans hb
    exact hb4.set off _
  · simp only [Value.ownBlock, Option.some.injEq] at hk
    subst hk
    rcases hat with h | h
    · exact .inl h
    · exact .inr ⟨by omega, by omega⟩
  · exact b4.trans ((Stays.cell (Stays.refl (fun k => k = blk) w4) off _).below (by omega) (fun k hk e => by have e' : k = blk := e; have := (h0 blk _ hsa).2; omega))
theorem BAt.blocks {w : World} {own : Owns} {B B0 : Nat} {b : Bld} {child ps : List Nat} (hb : BAt w own B B0 b child ps) : ∃ a c, w.cell? ⟨B, 7, none⟩ = some (.slice a b.open_.length c) := by
  obtain ⟨top, os⟩ := b
  cases os with
  | nil => exact hb.empty.2
  | cons o os =>
    obtain ⟨p, ps', G, cap, _, hlen, h7, _⟩ := hb.last
    exact ⟨_, cap, by rw [h7, hlen]; rfl⟩
theorem exprsL_len : ∀ {ws : List (List UInt8)} {xs : List Ex}, exprsL ws = some xs → xs.length = ws.length
  | [], xs, h => by unfold exprsL at h; injection h with h; subst h; rfl
  | w :: ws, xs, h => by
    unfold exprsL at h
    split at h
    · cases h
    · split at h
      · cases h
      · rename_i xs' h2
        injection h with h
        subst h
        simp [exprsL_len h2]
theorem partsL_ok {k : List UInt8} {t : List (List UInt8)} {n : List UInt8} {xs : List Ex} (h : partsL k t = some (n, xs)) : ArgOk k xs.length := by
  have named : ∀ m, namedL t m = some (n, xs) → xs.length = m := by
    intro m h
    unfold namedL at h
    split at h
    · cases h
    · split at h
      · rename_i hc
        obtain ⟨ys, h1, h2⟩ := Option.map_eq_some_iff.1 h
        injection h2 with _ h2
        subst h2
        rw [exprsL_len h1]; exact hc.1
      · cases h
  have simp1 : ∀ lo hi, simpleL t lo hi = some (n, xs) → lo ≤ xs.length ∧ xs.length ≤ hi := by
    intro lo hi h
    unfold simpleL at h
    split at h
    · cases h
    · rename_i hc
      obtain ⟨ys, h1, h2⟩ := Option.map_eq_some_iff.1 h
      injection h2 with _ h2
      subst h2
      rw [exprsL_len h1]
      omega
  unfold partsL at h
  unfold ArgOk
  split at h
  · rename_i hk; rw [if_pos hk]; exact named 1 h
  · rename_i hk1
    rw [if_neg hk1]
    split at h
    · rename_i hk; rw [if_pos hk]; exact named 2 h
    · rename_i hk2
      rw [if_neg hk2]
      split at h
      · rename_i hk; rw [if_pos hk]; have := simp1 1 1 h; omega
      · rename_i hk3
        rw [if_neg hk3]
        simp only at h
        split at h
        · cases h
        · split at h
          · rename_i h17
            have := simp1 0 16 h
            exact ⟨this.2, fun hn => absurd h17 hn⟩
          · rename_i h0 h17
            have := simp1 _ _ h
            have hle := actOf_le k
            have h5 := acts_le (actOfL k - 1) (by omega)
            rw [acts_get (by omega)] at this
            omega
structure Fr (own0 : Owns) (w0 : World) (own : Owns) (w : World) : Prop where
  st : Stays (fun k => own0 k ≠ none) w0 w
  free : ∀ k, k < w0.heap.size → own0 k = none → own k = none
theorem Fr.push {own0 own : Owns} {w0 w w' : World} {sl B0 : Nat} {a : Addr} {v v' : Value} (h : Fr own0 w0 own w) (hp : Pushed own sl a v v' w w') (hb : Below B0 w w') (hv : ∀ k, v.ownBlock = some k → own k = some sl) {sa : Nat} (ha : own a.block = some sa) : Fr own0 w0 (ownPut own v' sl) w' := by
  have hs := h.st.size
  have ot : ∀ k, k < w0.heap.size → own0 k = none → ownPut own v' sl k = own k ∧ w'.heap[k]? = w.heap[k]? := fun k hk hn => by
    have hf := h.free k hk hn
    exact hp.other hv (by omega) (by rw [hf]; intro e; cases e) (by rw [hf, ha]; intro e; cases e)
  refine ⟨⟨hb.os.trans h.st.os, hb.tape.trans h.st.tape, hb.output.trans h.st.output, Nat.le_trans hs hp.size, fun k hk hn => ?_⟩, fun k hk hn => (ot k hk hn).1.trans (h.free k hk hn)⟩
  have hn' : own0 k = none := by
    cases ho : own0 k with
    | none => rfl
    | some x => exact absurd (by rw [ho]; intro e; cases e) hn
  exact (ot k hk hn').2.trans (h.st.block k hk hn)
end Go.Proofs.YtddnmocoaahlfaaGreatDoor
