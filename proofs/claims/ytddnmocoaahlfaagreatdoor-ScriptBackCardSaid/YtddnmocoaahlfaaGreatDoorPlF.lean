/-
  The readers of a plant's lines: check and layout. Conditions: the package-level variables hold what the program lays; short words.
-/
import Derived.Test.YtddnmocoaahlfaaGreatDoorPlE
set_option linter.unusedVariables false
set_option linter.unusedSimpArgs false

namespace Go.Proofs.YtddnmocoaahlfaaGreatDoor
open Go.RowKit Go.Shelf
set_option maxRecDepth 100000 in
set_option maxHeartbeats 8000000 in
theorem check_any {w : World} (he : Env w) {R : Nat} {q : PV} {bv pv : Value} {ss ps : List ByteArray} (hp : PA w R q bv ss) (hr : SRw w pv ps) (hl : ps.length ≤ 65536) (hsz : ∀ x ∈ ps, x.size ≤ 65536) : Calls Tryz.prog 88 #[.pointer (some ⟨R, 0, none⟩), pv] w (RetRl w R (readLine 3 (q.pl (ss.map txt)) (ps.map txt))) := by
  have HU := Lib.hid (undecAll_any he hr (by omega) hsz)
  obtain ⟨res, hres⟩ : ∃ res, res = readLine 3 (q.pl (ss.map txt)) (ps.map txt) := ⟨_, rfl⟩
  rw [← hres]
  have HRES := Lib.hid hres
  clear hres
  go_enter Tryz.func88, Tryz.ntmps88
  go_wp2_with fail
  refine HU.out.mono ?_
  rintro e w1 ⟨b1, h1⟩
  clear HU
  cases hun : undecAllL (ps.map txt) with
  | none =>
    rw [hun] at h1
    have hrn : res = none := by rw [HRES.out]; unfold readLine oneL ; simp [hun]
    subst h1
    subst hrn
    clear hun HRES
    go_wp2_with fail
    go_ret
    exact ⟨.of b1, rfl⟩
  | some l =>
    rw [hun] at h1
    obtain ⟨v', rfl, hrow⟩ := h1
    by_cases hl1 : l.length = 1
    rotate_left
    · have hrn : res = none := by
        rw [HRES.out]
        unfold readLine
        simp [one_none hun hl1]
      subst hrn
      obtain ⟨a', n', c', rfl, hlen⟩ : ∃ a n c, v' = .slice a n c ∧ n = l.length := by
        obtain ⟨a, c, h⟩ := (nrow_of hrow).form
        exact ⟨a, _, c, h, rfl⟩
      have d1 : ((n' : Int) != 1) = true := by simp; omega
      clear hun HRES hlen hl1
      go_wp2_with fail
      go_ret
      exact ⟨.of b1, rfl⟩
    · have hnr := nrow_of hrow
      obtain ⟨pa, pc, rfl⟩ := hnr.form
      have hp1 := hp.below b1
      obtain ⟨m0, rfl⟩ : ∃ m0, l = [m0] := by
        match l, hl1 with
        | [m0], _ => exact ⟨m0, rfl⟩
      obtain ⟨L, o, rfl, _⟩ := nrow_get hnr (i := 0) (by simp)
      have l0 : w1.cell? ⟨L, o, none⟩ = some (.int .i64 m0) := by
        obtain ⟨L', o', e', h⟩ := nrow_get hnr (i := 0) (by simp)
        cases e'
        exact h
      have hln : ([m0] : List Int).length = 1 := rfl
      rw [hln]
      have hrs : res = if m0 = 0 ∨ m0 = 1 then some { q.pl (ss.map txt) with check := decide (m0 = 1) } else none := by rw [HRES.out]; unfold readLine oneL; simp [hun]
      have HT := Lib.hid (truth_any m0)
      obtain ⟨t1, ht1⟩ : ∃ t, t = decide (m0 = 1) := ⟨_, rfl⟩
      obtain ⟨t2, ht2⟩ : ∃ t, t = decide (m0 = 0 ∨ m0 = 1) := ⟨_, rfl⟩
      have hrs2 : res = if t2 then some { q.pl (ss.map txt) with check := t1 } else none := by rw [hrs, ht1, ht2]; simp only [decide_eq_true_eq]
      rw [← ht1, ← ht2] at HT
      clear hrs ht1 ht2
      have c3 : w1.cell? ⟨R, 3, none⟩ = some (.bool q.ck) := (hp1.blk.cell 3).trans rfl
      have f3 := hp1.blk.frozen 3
      have hst : Stays (fun k => k = R) w1 (World.setCell w1 ⟨R, 3, none⟩ (.bool t1)) := (Stays.cell (.refl _ w1) 3 (.bool t1))
      have hfin : RetRl w R res (.returned (.bool t2)) (World.setCell w1 ⟨R, 3, none⟩ (.bool t1)) := by
        refine ⟨(Stays.of b1).trans hst, ?_⟩
        rw [hrs2]
        cases t2 with
        | false => rfl
        | true => exact ⟨rfl, { q with ck := t1 }, bv, ss, ⟨(Blk.set hp1.blk 3 (.bool t1)), srw_stays hp1.row hst (fun L o m' c h h0 e => Nat.ne_of_gt (hp1.ne L o m' c h h0) e), hp1.ne, hp1.nl⟩, rfl⟩
      have HFIN := Lib.hid hfin
      clear hun HRES hrow hnr hl1 hst hfin hp hp1 hr hsz hln hrs2
      go_wp2_with (go_at_call 126; (with_reducible refine (HT.out _).mono ?_); rintro ex wz ⟨rfl, hz⟩; rw [hz]; clear hz)
      go_ret
      exact HFIN.out
set_option maxRecDepth 100000 in
set_option maxHeartbeats 8000000 in
theorem layout_any {w : World} (he : Env w) {R : Nat} {q : PV} {bv pv : Value} {ss ps : List ByteArray} (hp : PA w R q bv ss) (hr : SRw w pv ps) (hl : ps.length ≤ 65536) (hsz : ∀ x ∈ ps, x.size ≤ 65536) : Calls Tryz.prog 89 #[.pointer (some ⟨R, 0, none⟩), pv] w (RetRl w R (readLine 4 (q.pl (ss.map txt)) (ps.map txt))) := by
  have HU := Lib.hid (undecAll_any he hr (by omega) hsz)
  obtain ⟨res, hres⟩ : ∃ res, res = readLine 4 (q.pl (ss.map txt)) (ps.map txt) := ⟨_, rfl⟩
  rw [← hres]
  have HRES := Lib.hid hres
  clear hres
  go_enter Tryz.func89, Tryz.ntmps89
  go_wp2_with fail
  refine HU.out.mono ?_
  rintro e w1 ⟨b1, h1⟩
  clear HU
  cases hun : undecAllL (ps.map txt) with
  | none =>
    rw [hun] at h1
    have hrn : res = none := by rw [HRES.out]; unfold readLine ; simp [hun]
    subst h1
    subst hrn
    clear hun HRES
    go_wp2_with fail
    go_ret
    exact ⟨.of b1, rfl⟩
  | some l =>
    rw [hun] at h1
    obtain ⟨v', rfl, hrow⟩ := h1
    by_cases hl1 : l.length = 5
    rotate_left
    · have hrn : res = none := by
        rw [HRES.out]
        unfold readLine
        simp only [hun]
        match l, hl1 with
        | [], _ => rfl
        | [_], _ => rfl
        | [_, _], _ => rfl
        | [_, _, _], _ => rfl
        | [_, _, _, _], _ => rfl
        | [_, _, _, _, _], h => exact absurd rfl h
        | _ :: _ :: _ :: _ :: _ :: _ :: _, _ => rfl
      subst hrn
      obtain ⟨a', n', c', rfl, hlen⟩ : ∃ a n c, v' = .slice a n c ∧ n = l.length := by
        obtain ⟨a, c, h⟩ := (nrow_of hrow).form
        exact ⟨a, _, c, h, rfl⟩
      have d1 : ((n' : Int) != 5) = true := by simp; omega
      clear hun HRES hlen hl1
      go_wp2_with fail
      go_ret
      exact ⟨.of b1, rfl⟩
    · have hnr := nrow_of hrow
      obtain ⟨pa, pc, rfl⟩ := hnr.form
      have hp1 := hp.below b1
      obtain ⟨m0, m1, m2, m3, m4, rfl⟩ : ∃ m0 m1 m2 m3 m4, l = [m0, m1, m2, m3, m4] := by
        match l, hl1 with
        | [m0, m1, m2, m3, m4], _ => exact ⟨m0, m1, m2, m3, m4, rfl⟩
      obtain ⟨L, o, rfl, _⟩ := nrow_get hnr (i := 0) (by simp)
      have hLR : L ≠ R := by
        have := hp.blk.lt
        rcases hrow.2 with ⟨h, _⟩ | ⟨g, cap, cur, h, hb, _⟩
        · cases h
        · cases h
          omega
      have l0 : w1.cell? ⟨L, o, none⟩ = some (.int .i64 m0) := by
        obtain ⟨L', o', e', h⟩ := nrow_get hnr (i := 0) (by simp)
        cases e'
        exact h
      have l1 : w1.cell? ⟨L, o + 1, none⟩ = some (.int .i64 m1) := by
        obtain ⟨L', o', e', h⟩ := nrow_get hnr (i := 1) (by simp)
        cases e'
        exact h
      have l2 : w1.cell? ⟨L, o + 2, none⟩ = some (.int .i64 m2) := by
        obtain ⟨L', o', e', h⟩ := nrow_get hnr (i := 2) (by simp)
        cases e'
        exact h
      have l3 : w1.cell? ⟨L, o + 3, none⟩ = some (.int .i64 m3) := by
        obtain ⟨L', o', e', h⟩ := nrow_get hnr (i := 3) (by simp)
        cases e'
        exact h
      have l4 : w1.cell? ⟨L, o + 4, none⟩ = some (.int .i64 m4) := by
        obtain ⟨L', o', e', h⟩ := nrow_get hnr (i := 4) (by simp)
        cases e'
        exact h
      have hln : ([m0, m1, m2, m3, m4] : List Int).length = 5 := rfl
      rw [hln]
      have hrs : res = if m4 = 0 ∨ m4 = 1 then some { q.pl (ss.map txt) with rows := m0, cols := m1, ream := m2, bundle := m3, down := decide (m4 = 1) } else none := by rw [HRES.out]; unfold readLine; simp [hun]
      have HT := Lib.hid (truth_any m4)
      obtain ⟨t1, ht1⟩ : ∃ t, t = decide (m4 = 1) := ⟨_, rfl⟩
      obtain ⟨t2, ht2⟩ : ∃ t, t = decide (m4 = 0 ∨ m4 = 1) := ⟨_, rfl⟩
      have hrs2 : res = if t2 then some { q.pl (ss.map txt) with rows := m0, cols := m1, ream := m2, bundle := m3, down := t1 } else none := by rw [hrs, ht1, ht2]; simp only [decide_eq_true_eq]
      rw [← ht1, ← ht2] at HT
      clear hrs ht1 ht2
      have c4 : w1.cell? ⟨R, 4, none⟩ = some (.int .i64 q.rows) := (hp1.blk.cell 4).trans rfl
      have f4 := hp1.blk.frozen 4
      have c5 : w1.cell? ⟨R, 5, none⟩ = some (.int .i64 q.cols) := (hp1.blk.cell 5).trans rfl
      have f5 := hp1.blk.frozen 5
      have c6 : w1.cell? ⟨R, 6, none⟩ = some (.int .i64 q.ream) := (hp1.blk.cell 6).trans rfl
      have f6 := hp1.blk.frozen 6
      have c7 : w1.cell? ⟨R, 7, none⟩ = some (.int .i64 q.bundle) := (hp1.blk.cell 7).trans rfl
      have f7 := hp1.blk.frozen 7
      have c8 : w1.cell? ⟨R, 8, none⟩ = some (.bool q.dn) := (hp1.blk.cell 8).trans rfl
      have f8 := hp1.blk.frozen 8
      obtain ⟨w2, hw2⟩ : ∃ w2, w2 = (World.drew (World.setCell (World.setCell (World.setCell (World.setCell (World.setCell w1 ⟨R, 4, none⟩ (.int .i64 m0)) ⟨R, 5, none⟩ (.int .i64 m1)) ⟨R, 6, none⟩ (.int .i64 m2)) ⟨R, 7, none⟩ (.int .i64 m3)) ⟨R, 8, none⟩ (.bool false))) := ⟨_, rfl⟩
      have hst0 : Stays (fun k => k = R) w1 w2 := by rw [hw2]; exact (Stays.drewN (Stays.cell ((Stays.cell ((Stays.cell ((Stays.cell ((Stays.cell (.refl _ w1) 4 (.int .i64 m0))) 5 (.int .i64 m1))) 6 (.int .i64 m2))) 7 (.int .i64 m3))) 8 (.bool false)) 1)
      have hbl0 : Blk w2 R (({ q with rows := m0, cols := m1, ream := m2, bundle := m3, dn := false } : PV).cells bv) 35 := by rw [hw2]; exact (Blk.drewN (Blk.set (Blk.set (Blk.set (Blk.set (Blk.set hp1.blk 4 (.int .i64 m0)) 5 (.int .i64 m1)) 6 (.int .i64 m2)) 7 (.int .i64 m3)) 8 (.bool false)) 1)
      have hst : Stays (fun k => k = R) w1 (w2.setCell ⟨R, 8, none⟩ (.bool t1)) := .cell hst0 8 _
      have hfin : RetRl w R res (.returned (.bool t2)) (w2.setCell ⟨R, 8, none⟩ (.bool t1)) := by
        refine ⟨(Stays.of b1).trans hst, ?_⟩
        rw [hrs2]
        cases t2 with
        | false => rfl
        | true => exact ⟨rfl, { q with rows := m0, cols := m1, ream := m2, bundle := m3, dn := t1 }, bv, ss, ⟨hbl0.set 8 (.bool t1), srw_stays hp1.row hst (fun L o m' c h h0 e => Nat.ne_of_gt (hp1.ne L o m' c h h0) e), hp1.ne, hp1.nl⟩, rfl⟩
      have g4 : w2.cell? ⟨L, o + 4, none⟩ = some (.int .i64 m4) := (World.cell?_of_block (a := ⟨L, o + 4, none⟩) (hst0.block L (World.block_lt_of_cell? w1 _ l4) hLR)).trans l4
      have g8 : w2.cell? ⟨R, 8, none⟩ = some (.bool false) := (hbl0.cell 8).trans rfl
      have k8 := hbl0.frozen 8
      have HFIN := Lib.hid hfin
      have HW2 := Lib.hid hw2
      clear hw2 hun HRES hrow hnr hl1 hst hfin hst0 hbl0 hp hp1 hr hsz hln hrs2
      go_upto_region 4 with fail
      go_region
      rw [← HW2.out]
      clear l0 l1 l2 l3 l4 c4 c5 c6 c7 c8 f4 f5 f6 f7 f8
      go_wp2_with (go_at_call 126; (with_reducible refine (HT.out _).mono ?_); rintro ex wz ⟨rfl, hz⟩; rw [hz]; clear hz)
      go_ret
      exact HFIN.out
end Go.Proofs.YtddnmocoaahlfaaGreatDoor
