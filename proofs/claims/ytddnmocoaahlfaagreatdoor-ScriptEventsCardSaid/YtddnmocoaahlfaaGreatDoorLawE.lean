/-
  The law ScriptEvents, walked. Conditions: the package-level variables hold what the program lays.
-/
import Derived.Test.YtddnmocoaahlfaaGreatDoorZr
set_option linter.unusedVariables false
set_option linter.unusedSimpArgs false
namespace Go.Proofs.YtddnmocoaahlfaaGreatDoor
open Go.RowKit Go.Shelf

theorem Evs.under {w w' : World} (h : Evs w) (b : Below w.heap.size w w') : Evs w' := h.below b
set_option maxRecDepth 100000 in
set_option maxHeartbeats 8000000 in
theorem events_walk {w : World} (he : Env w) (hev : Evs w) {k a b c : Int} {s : ByteArray} (ha : I64 a) (hb : I64 b) (hc : I64 c) (hm : s.size ≤ maxLen) : Calls Tryz.prog 14 #[evA k a b c s] w (RetT w) := by
  have hm' : s.size ≤ 9223372036854775807 := by unfold maxLen at hm; omega
  obtain ⟨w1, hw1⟩ : ∃ w1, w1 = w.alloc (.cells #[.int .i64 k, .int .i64 a, .int .i64 b, .int .i64 c, .string s] 26) := ⟨_, rfl⟩
  have l1 : Below w.heap.size w w1 := by rw [hw1]; exact (Below.refl _ _).alloc (Nat.le_refl _) _
  have bR : Blk w1 w.heap.size #[.int .i64 k, .int .i64 a, .int .i64 b, .int .i64 c, .string s] 26 := by rw [hw1]; exact Blk.new w _ _
  have HA := Lib.hid (awake_any (he.below l1))
  have HW := Lib.hid hw1
  by_cases hbig : 1000 < s.size
  · have hd : decide ((1000 : Int) < (s.size : Int)) = true := decide_eq_true (by omega)
    clear he hw1 bR
    go_enter Tryz.func14, Tryz.ntmps14
    go_wp2_with fail
    rw [← HW.out]
    refine HA.out.mono ?_
    rintro ex w2 ⟨rfl, b2⟩
    go_wp2_with fail
    go_ret
    exact ⟨rfl, l1.trans (b2.mono l1.size)⟩
  have hd : decide ((1000 : Int) < (s.size : Int)) = false := decide_eq_false (by omega)
  have HT := Lib.hid (evText_any (he.below l1) (hev.below l1) (k := k) (s := s) ha hb hc (by omega))
  have HE := Lib.hid he
  clear he hw1 HA hev
  go_enter Tryz.func14, Tryz.ntmps14
  go_wp2_with fail
  rw [← HW.out]
  refine HT.out.mono ?_
  rintro ex w2 ⟨b2, sx, rfl, hs⟩
  have l2 := l1.trans (b2.mono l1.size)
  have B2 := bR.below b2
  have s0 : w2.cell? ⟨w.heap.size, 0, none⟩ = some (.int .i64 k) := (B2.cell 0).trans rfl
  have s1 : w2.cell? ⟨w.heap.size, 1, none⟩ = some (.int .i64 a) := (B2.cell 1).trans rfl
  have s2 : w2.cell? ⟨w.heap.size, 2, none⟩ = some (.int .i64 b) := (B2.cell 2).trans rfl
  have s3 : w2.cell? ⟨w.heap.size, 3, none⟩ = some (.int .i64 c) := (B2.cell 3).trans rfl
  have s4 : w2.cell? ⟨w.heap.size, 4, none⟩ = some (.string s) := (B2.cell 4).trans rfl
  have HR := Lib.hid (evTextR_any (w := w2) (k := k) (s := s) ha hb hc (by omega))
  have HS := Lib.hid hs
  clear HT hs bR B2 HW
  go_wp2_with fail
  refine HR.out.mono ?_
  rintro ex w3 ⟨b3, s', rfl, hs'⟩
  have l3 := l2.trans (b3.mono l2.size)
  obtain rfl : sx = s' := txt_inj' (HS.out.trans hs'.symm)
  have HA := Lib.hid (awake_any (HE.out.below l3))
  clear hs' HR s0 s1 s2 s3 s4 HS
  generalize (evTextT k [a, b, c] (txt s)).2 = r at *
  go_wp2_with fail
  refine HA.out.mono ?_
  rintro ex w4 ⟨rfl, b4⟩
  go_wp2_with fail
  go_ret
  exact ⟨rfl, l3.trans (b4.mono l3.size)⟩
end Go.Proofs.YtddnmocoaahlfaaGreatDoor
