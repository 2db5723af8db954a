/-
  The reference's Compile, from the contracts of ReadScript and of a range of lines. No other condition.
-/
import Derived.Test.YtddnmocoaahlfaaGreatDoorCmK
import Derived.Test.YtddnmocoaahlfaaGreatDoorY39
set_option linter.unusedVariables false
set_option linter.unusedSimpArgs false
namespace Go.Proofs.YtddnmocoaahlfaaGreatDoor
open Go.RowKit Go.Shelf
def RetRS (w : World) (t : List UInt8) (x : Ending) (w' : World) : Prop := Below w.heap.size w w' ∧ ∃ (W E L : Value) (line : Int), Slc W ∧ Slc E ∧ Slc L ∧ x = .returned (.tuple #[pgV W E L, .int .i64 line]) ∧ match readL 0 (linesL t) ⟨[], []⟩ with
  | .error k => line = (k : Nat)
  | .ok b => if b.open_ ≠ [] then line = ((linesL t).length + 1 : Nat) else line = 0 ∧ ∃ T, Pg w' W E L T (linesL t).length ∧ Rep T 0 (linesL t).length b.top
def RetCR (w : World) (t : List UInt8) (x : Ending) (w' : World) : Prop := Below w.heap.size w w' ∧ ∃ v b, x = .returned (.tuple #[v, .int .i64 (compT t).2.1, .int .i64 (compT t).2.2]) ∧ ActsAt w' b v (compT t).1 ∧ (compT t).1.length ≤ 4096
theorem read_pos : ∀ (ls : List (List UInt8)) (i : Nat) (b : Bld) (k : Nat), readL i ls b = .error k → 0 < k
  | [], i, b, k, h => by unfold readL at h; cases h
  | l :: ls, i, b, k, h => by
    unfold readL at h
    simp only at h
    split at h
    · exact read_pos ls _ _ _ h
    · split at h
      · injection h with h; omega
      · exact read_pos ls _ _ _ h
theorem comp_big {t : List UInt8} (h : 65536 < t.length) : compT t = ([], 0, 5) := by unfold compT compileL; rw [if_pos h]
theorem comp_bad {t : List UInt8} {k : Nat} (h : ¬ 65536 < t.length) (hr : readL 0 (linesL t) ⟨[], []⟩ = .error k) : compT t = ([], k, 4) := by unfold compT compileL; rw [if_neg h]; simp only [hr]
theorem comp_open {t : List UInt8} {b : Bld} (h : ¬ 65536 < t.length) (hr : readL 0 (linesL t) ⟨[], []⟩ = .ok b) (ho : b.open_ ≠ []) : compT t = ([], (linesL t).length + 1, 4) := by unfold compT compileL; rw [if_neg h]; simp only [hr]; rw [if_pos ho]
theorem comp_err {t : List UInt8} {b : Bld} {e : Int} {line : Nat} (h : ¬ 65536 < t.length) (hr : readL 0 (linesL t) ⟨[], []⟩ = .ok b) (ho : b.open_ = []) (hx : runL b.top ⟨fun _ => none, 0, []⟩ = .error (e, line)) : compT t = ([], line, e) := by unfold compT compileL; rw [if_neg h]; simp only [hr]; rw [if_neg (fun h => h ho)]; simp only [hx]
theorem comp_ok {t : List UInt8} {b : Bld} {s : Ran} (h : ¬ 65536 < t.length) (hr : readL 0 (linesL t) ⟨[], []⟩ = .ok b) (ho : b.open_ = []) (hx : runL b.top ⟨fun _ => none, 0, []⟩ = .ok s) : compT t = (s.acts, 0, 0) := by unfold compT compileL; rw [if_neg h]; simp only [hr]; rw [if_neg (fun h => h ho)]; simp only [hx]
theorem zero126 (w : World) : (Instr.alloc 126 true (.tuple #[])).run Tryz.prog w = .ok (.pointer (some ⟨w.heap.size, 0, none⟩)) (w.alloc (.cells #[.slice none 0 0, .slice none 0 0, .slice none 0 0] 126)) := by kernel_rfl
theorem build130 (w : World) : (Instr.build 130 #[]).run Tryz.prog w = .ok (rnV (.slice none 0 0) (.slice none 0 0) (.slice none 0 0) 0 0 0) w := by kernel_rfl
theorem nil_acts (w : World) (b : Nat) : ActsAt w b (.slice none 0 0) [] := ⟨[], World.ownsRow_nil _ _ _ _, rfl⟩
theorem rn_begun (w : World) : RnSt w w.heap.size (.slice none 0 0) (.slice none 0 0) (.slice none 0 0) ⟨fun _ => none, 0, []⟩ :=
  ⟨nil_acts w _, ⟨[], [], World.ownsRow_nil _ _ _ _, World.ownsRow_nil _ _ _ _, rfl, rfl, List.nodup_nil, Nat.le_refl _⟩, by simp, by simp, Nat.le_refl _⟩
set_option maxRecDepth 100000 in
set_option maxHeartbeats 8000000 in
theorem compR_of {w : World} (s : ByteArray) (hread : s.size ≤ 65536 → Calls Tryz.prog 62 #[.string s] w (RetRS w (txt s)))
    (hspan : ∀ (w0 : World) (W E L : Value) (T : Tabs) (n : Nat) (ss : List Stm), Pg w0 W E L T n → Rep T 0 n ss → SpanC w0 W E L 0 n ss) : Calls Tryz.prog 30 #[.string s] w (RetCR w (txt s)) := by
  have hlen : (txt s).length = s.size := by simp
  obtain ⟨r, hr⟩ : ∃ r, r = compT (txt s) := ⟨_, rfl⟩
  by_cases hs : 65536 < s.size
  · have hrr : r = ([], 0, 5) := by rw [hr, comp_big (by omega)]
    have d : decide ((65536 : Int) < (s.size : Int)) = true := decide_eq_true (by omega)
    have HF := Lib.hid (show RetCR w (txt s) (.returned (.tuple #[.slice none 0 0, .int .i64 0, .int .i64 5])) w from ⟨Below.refl _ _, _, 0, by rw [comp_big (by omega)]; rfl, by rw [comp_big (by omega)]; exact nil_acts w 0, by rw [comp_big (by omega)]; simp⟩)
    clear hread hspan hr hrr
    go_enter Tryz.func30, Tryz.ntmps30
    go_wp2_with fail
    refine ⟨rfl, _, ?_, HF.out⟩
    simp [results, Tryz.results30, go_sem]
  have d : decide ((65536 : Int) < (s.size : Int)) = false := decide_eq_false (by omega)
  have HREAD := Lib.hid (hread (by omega))
  have HSPAN := Lib.hid hspan
  have hbig : ¬ 65536 < (txt s).length := by omega
  have HBIG := Lib.hid hbig
  clear hread hspan hr hs hbig hlen
  go_enter Tryz.func30, Tryz.ntmps30
  go_wp2_with fail
  refine HREAD.out.mono ?_
  rintro ex w1 ⟨b1, W, E, L, line, ⟨g, nW, c, rfl⟩, ⟨g2, nE, c2, rfl⟩, ⟨g3, nL, c3, rfl⟩, rfl, hm⟩
  have HM := Lib.hid hm
  have B2 := Blk.new w1 #[.slice none 0 0, .slice none 0 0, .slice none 0 0] 126
  have hst3 := blk_store (c' := #[.slice g nW c, .slice g2 nE c2, .slice g3 nL c3]) B2 size126 rfl rfl
  have B3 := setRow_heap _ w1.heap.size _ #[.slice g nW c, .slice g2 nE c2, .slice g3 nL c3] 126 B2
  have s3 := setRow_stays (w1.alloc (.cells #[.slice none 0 0, .slice none 0 0, .slice none 0 0] 126)) w1.heap.size #[.slice g nW c, .slice g2 nE c2, .slice g3 nL c3]
  have bal : Below w1.heap.size w1 (w1.alloc (.cells #[.slice none 0 0, .slice none 0 0, .slice none 0 0] 126)) := (Below.refl _ _).alloc (Nat.le_refl _) _
  obtain ⟨w3, hw3⟩ : ∃ w3, w3 = (w1.alloc (.cells #[.slice none 0 0, .slice none 0 0, .slice none 0 0] 126)).setRow w1.heap.size #[.slice g nW c, .slice g2 nE c2, .slice g3 nL c3] := ⟨_, rfl⟩
  rw [← hw3] at hst3 B3 s3
  have b13 : Below w1.heap.size w1 w3 := bal.trans (s3.below bal.size (fun j hj e => by have e' : j = w1.heap.size := e; omega))
  have b3 : Below w.heap.size w w3 := b1.trans (b13.mono b1.size)
  have HST3 := Lib.hid hst3
  have hz13 := b13.size
  have hz1 := b1.size
  clear hst3 hw3 s3 bal hm B2
  have nilret : ∀ (a b : Int), compT (txt s) = ([], a.toNat, b) → 0 ≤ a → RetCR w (txt s) (.returned (.tuple #[.slice none 0 0, .int .i64 a, .int .i64 b])) w3 := fun a b h h0 => ⟨b3, _, 0, by rw [h]; simp only; rw [Int.toNat_of_nonneg h0], by rw [h]; exact nil_acts w3 0, by rw [h]; simp⟩
  have HNIL := Lib.hid nilret
  clear nilret
  by_cases hl0 : line = 0
  rotate_left
  · have d1 : (line != 0) = true := by simpa using hl0
    have hfin : RetCR w (txt s) (.returned (.tuple #[.slice none 0 0, .int .i64 line, .int .i64 4])) w3 := by
      have hm := HM.out
      cases hrd : readL 0 (linesL (txt s)) ⟨[], []⟩ with
      | error k =>
        rw [hrd] at hm
        have hm : line = (k : Nat) := hm
        subst hm
        exact HNIL.out _ _ (by rw [comp_bad HBIG.out hrd]; rfl) (by omega)
      | ok b =>
        rw [hrd] at hm
        simp only at hm
        by_cases ho : b.open_ ≠ []
        · rw [if_pos ho] at hm
          subst hm
          exact HNIL.out _ _ (by rw [comp_open HBIG.out hrd ho]; rfl) (by omega)
        · rw [if_neg ho] at hm
          exact absurd hm.1 hl0
    have HFIN := Lib.hid hfin
    clear hfin hl0
    go_wp2_with (first | (refine wpList_val (o := ⟨some 5, Op.alloc 126, _, _, _, _⟩) rfl (Instr.alloc 126 true (.tuple #[])) rfl _ (zero126 _) ?_) | (refine wpList_unit (o := ⟨none, Op.store 126 (.tmp 5) _, _, _, _, _⟩) rfl rfl (Instr.storeAt 126 _ _) rfl HST3.out ?_) | fail)
    refine ⟨rfl, _, ?_, HFIN.out⟩
    simp [results, Tryz.results30, go_sem]
  subst hl0
  obtain ⟨b, hrd, ho, T, hpg, hrep⟩ : ∃ b, readL 0 (linesL (txt s)) ⟨[], []⟩ = .ok b ∧ b.open_ = [] ∧ ∃ T, Pg w1 (.slice g nW c) (.slice g2 nE c2) (.slice g3 nL c3) T (linesL (txt s)).length ∧ Rep T 0 (linesL (txt s)).length b.top := by
    have hm := HM.out
    cases hrd : readL 0 (linesL (txt s)) ⟨[], []⟩ with
    | error k =>
      rw [hrd] at hm
      have hm : (0 : Int) = (k : Nat) := hm
      have := read_pos _ _ _ _ hrd
      omega
    | ok b =>
      rw [hrd] at hm
      simp only at hm
      by_cases ho : b.open_ ≠ []
      · rw [if_pos ho] at hm
        omega
      · rw [if_neg ho] at hm
        obtain ⟨_, T, h1, h2⟩ := hm
        exact ⟨b, rfl, by simpa using ho, T, h1, h2⟩
  obtain ⟨n, hn⟩ : ∃ n, n = (linesL (txt s)).length := ⟨_, rfl⟩
  rw [← hn] at hpg hrep
  have hnW : nW = n := by
    obtain ⟨_, _, e, _⟩ := hpg.wrow
    injection e
  subst hnW
  have hsp := HSPAN.out w3 _ _ _ T nW b.top (hpg.below b13) hrep w3 _ _ _ ⟨fun _ => none, 0, []⟩ (Below.refl _ _) (rn_begun w3)
  have HSP := Lib.hid hsp
  have HRD := Lib.hid (And.intro hrd ho)
  have hn65 := hpg.len
  have p0 : w3.cell? ⟨w1.heap.size, 0, none⟩ = some (.slice g nW c) := (B3.cell 0).trans rfl
  clear hsp hrd ho hpg hrep hn HM
  go_wp2_with (first | (refine wpList_val (o := ⟨some 5, Op.alloc 126, _, _, _, _⟩) rfl (Instr.alloc 126 true (.tuple #[])) rfl _ (zero126 _) ?_) | (refine wpList_unit (o := ⟨none, Op.store 126 (.tmp 5) _, _, _, _, _⟩) rfl rfl (Instr.storeAt 126 _ _) rfl HST3.out ?_) | (refine wpList_val (o := ⟨some 19, Op.build 130 _, _, _, _, _⟩) rfl (Instr.build 130 #[]) rfl _ (build130 _) ?_) | (refine wpList_val (o := ⟨some 20, Op.load 126 _, _, _, _, _⟩) rfl (Instr.loadAt 126 _) rfl _ (pg_load B3) ?_) | fail)
  refine HSP.out.mono ?_
  intro ex w4 hret
  obtain ⟨b4, k4, A4, N4, V4, stz, ez, lnz, rfl, ⟨qd, qe, qf, rfl⟩, ⟨m7, m8, m9, rfl⟩, ⟨u7, u8, u9, rfl⟩, hend⟩ := span_uni hret
  have BZ := Blk.new w4 (rnC (.slice none 0 0) (.slice none 0 0) (.slice none 0 0) 0 0 0) 130
  have hst5 := blk_store (c' := rnC (.slice qd qe qf) (.slice m7 m8 m9) (.slice u7 u8 u9) stz ez lnz) BZ size130 rfl rfl
  have B5 := setRow_heap _ w4.heap.size _ (rnC (.slice qd qe qf) (.slice m7 m8 m9) (.slice u7 u8 u9) stz ez lnz) 130 BZ
  have s5 := setRow_stays (w4.alloc (.cells (rnC (.slice none 0 0) (.slice none 0 0) (.slice none 0 0) 0 0 0) 130)) w4.heap.size (rnC (.slice qd qe qf) (.slice m7 m8 m9) (.slice u7 u8 u9) stz ez lnz)
  have bal5 : Below w4.heap.size w4 (w4.alloc (.cells (rnC (.slice none 0 0) (.slice none 0 0) (.slice none 0 0) 0 0 0) 130)) := (Below.refl _ _).alloc (Nat.le_refl _) _
  obtain ⟨w5, hw5⟩ : ∃ w5, w5 = (w4.alloc (.cells (rnC (.slice none 0 0) (.slice none 0 0) (.slice none 0 0) 0 0 0) 130)).setRow w4.heap.size (rnC (.slice qd qe qf) (.slice m7 m8 m9) (.slice u7 u8 u9) stz ez lnz) := ⟨_, rfl⟩
  rw [← hw5] at hst5 B5 s5
  have b45 : Below w4.heap.size w4 w5 := bal5.trans (s5.below bal5.size (fun j hj e => by have e' : j = w4.heap.size := e; omega))
  have b5 : Below w.heap.size w w5 := b3.trans ((b4.mono (by omega)).trans (b45.mono (by have := b4.size; omega)))
  obtain ⟨y0, y1, y2, y3, y4, y5⟩ := rn_cells B5
  have HST5 := Lib.hid hst5
  have HB5 := Lib.hid b5
  clear hst5 hw5 s5 bal5 BZ b5 hret
  rcases hend with ⟨s1, h1, h2, h3, h4, h5⟩ | ⟨h1, ln, h2, h3⟩
  · subst h3
    subst h4
    have hc := comp_ok HBIG.out HRD.out.1 HRD.out.2 h1
    have HFIN := Lib.hid (show ∀ W', Below w5.heap.size w5 W' → RetCR w (txt s) (.returned (.tuple #[.slice qd qe qf, .int .i64 0, .int .i64 0])) W' from fun W' hW' => ⟨HB5.out.trans (hW'.mono HB5.out.size), _, _, by rw [hc]; rfl, by rw [hc]; exact (h5.acts.typed (.below b45)).typed (.below hW'), by rw [hc]; exact h5.alen⟩)
    clear hc h1 h2 h5 b45 b4 k4
    go_wp2_with (first | (refine wpList_val (o := ⟨some 7, Op.alloc 130, _, _, _, _⟩) rfl (Instr.alloc 130 true (.tuple #[])) rfl _ (zero130 _) ?_) | (refine wpList_unit (o := ⟨none, Op.store 130 (.tmp 7) _, _, _, _, _⟩) rfl rfl (Instr.storeAt 130 _ _) rfl HST5.out ?_) | fail)
    refine ⟨rfl, _, ?_, HFIN.out _ (Below.refl _ _)⟩
    simp [results, Tryz.results30, go_sem]
  · have hc := comp_err HBIG.out HRD.out.1 HRD.out.2 h3
    have d2 : (ez != 0) = true := by simpa using h1
    have HFIN := Lib.hid (show ∀ W', Below w5.heap.size w5 W' → RetCR w (txt s) (.returned (.tuple #[.slice none 0 0, .int .i64 lnz, .int .i64 ez])) W' from fun W' hW' => ⟨HB5.out.trans (hW'.mono HB5.out.size), _, 0, by rw [hc, h2], by rw [hc]; exact nil_acts _ 0, by rw [hc]; simp⟩)
    clear hc h1 h2 h3 b45 b4 k4
    go_upto_region 8 with (first | (refine wpList_val (o := ⟨some 7, Op.alloc 130, _, _, _, _⟩) rfl (Instr.alloc 130 true (.tuple #[])) rfl _ (zero130 _) ?_) | (refine wpList_unit (o := ⟨none, Op.store 130 (.tmp 7) _, _, _, _, _⟩) rfl rfl (Instr.storeAt 130 _ _) rfl HST5.out ?_) | fail)
    go_quiet (fail)
    go_wp2_with fail
    refine ⟨rfl, _, ?_, HFIN.out _ ⟨rfl, rfl, rfl, Nat.le_refl _, fun _ _ => rfl⟩⟩
    simp [results, Tryz.results30, go_sem]
end Go.Proofs.YtddnmocoaahlfaaGreatDoor
