/-
  The law ScriptReports, walked. Conditions: the package-level variables hold what the program lays.
-/
import Derived.Test.YtddnmocoaahlfaaGreatDoorZt
import Derived.Test.YtddnmocoaahlfaaGreatDoorZu
set_option linter.unusedVariables false
set_option linter.unusedSimpArgs false
namespace Go.Proofs.YtddnmocoaahlfaaGreatDoor
open Go.RowKit Go.Shelf

set_option maxRecDepth 100000 in
set_option maxHeartbeats 4000000 in
theorem reports_walk {w : World} (he : Env w) (hev : Evs w) (s : ByteArray) : Calls Tryz.prog 16 #[.string s] w (RetT w) := by
  have HA := Lib.hid (awake_any he)
  by_cases hbig : 1000 < s.size
  · have hd : decide ((1000 : Int) < (s.size : Int)) = true := decide_eq_true (by omega)
    clear he hev
    go_enter Tryz.func16, Tryz.ntmps16
    go_wp2_with fail
    refine HA.out.mono ?_
    rintro ex w2 ⟨rfl, b2⟩
    go_wp2_with fail
    go_ret
    exact ⟨rfl, b2⟩
  have hd : decide ((1000 : Int) < (s.size : Int)) = false := decide_eq_false (by omega)
  obtain ⟨r, hr⟩ : ∃ r, r = parseEvT (txt s) := ⟨_, rfl⟩
  have H1 := parseEvP_any he hev s (by omega)
  rw [← hr] at H1
  have HP := Lib.hid H1
  have HQ := Lib.hid (fun W => by
    have := parseEvR_any (w := W) s (by omega)
    rw [← hr] at this
    exact this)
  have HE := Lib.hid he
  clear H1 hr HA he hev
  obtain ⟨⟨k, f, x⟩, e0⟩ := r
  go_enter Tryz.func16, Tryz.ntmps16
  go_wp2_with fail
  refine HP.out.mono ?_
  rintro ex w1 ⟨b1, a, b, c, s1, rfl, hf1, hs1⟩
  simp only at hf1 hs1 ⊢
  obtain ⟨w2, hw2⟩ : ∃ w2, w2 = w1.alloc (.cells #[.int .i64 k, .int .i64 a, .int .i64 b, .int .i64 c, .string s1] 26) := ⟨_, rfl⟩
  have l12 : Below w1.heap.size w1 w2 := by rw [hw2]; exact (Below.refl _ _).alloc (Nat.le_refl _) _
  have B2 : Blk w2 w1.heap.size #[.int .i64 k, .int .i64 a, .int .i64 b, .int .i64 c, .string s1] 26 := by rw [hw2]; exact Blk.new w1 _ _
  have l2 := b1.trans (l12.mono b1.size)
  have HW2 := Lib.hid hw2
  have HF := Lib.hid hf1
  have HS := Lib.hid hs1
  clear hw2 hf1 hs1 HP
  go_wp2_with fail
  rw [← HW2.out]
  refine (HQ.out w2).mono ?_
  rintro ex w3 ⟨b3, a', b', c', s2, rfl, hf2, hs2⟩
  simp only at hf2 hs2 ⊢
  have e1 : [a, b, c] = [a', b', c'] := HF.out.symm.trans hf2
  simp only [List.cons.injEq, and_true] at e1
  obtain ⟨rfl, rfl, rfl⟩ := e1
  obtain rfl : s1 = s2 := txt_inj' (HS.out.trans hs2.symm)
  clear hf2 hs2 HF HS HQ
  have l3 := l2.trans (b3.mono l2.size)
  have B3 := B2.below b3
  obtain ⟨w4, hw4⟩ : ∃ w4, w4 = w3.alloc (.cells #[.int .i64 k, .int .i64 a, .int .i64 b, .int .i64 c, .string s1] 26) := ⟨_, rfl⟩
  have l34 : Below w3.heap.size w3 w4 := by rw [hw4]; exact (Below.refl _ _).alloc (Nat.le_refl _) _
  have C4 : Blk w4 w3.heap.size #[.int .i64 k, .int .i64 a, .int .i64 b, .int .i64 c, .string s1] 26 := by rw [hw4]; exact Blk.new w3 _ _
  have l4 := l3.trans (l34.mono l3.size)
  have B4 := B3.below l34
  obtain ⟨y0, y1, y2, y3, y4⟩ := ev_cells B4
  obtain ⟨x0, x1, x2, x3, x4⟩ := ev_cells C4
  have HA := Lib.hid (awake_any (HE.out.below l4))
  have HW4 := Lib.hid hw4
  clear hw4 B3 l34 B2
  go_upto_region 5 with fail
  rw [← HW4.out]
  go_wp2_with fail
  refine HA.out.mono ?_
  rintro ex w5 ⟨rfl, b5⟩
  go_wp2_with fail
  go_ret
  exact ⟨rfl, l4.trans (b5.mono l4.size)⟩
end Go.Proofs.YtddnmocoaahlfaaGreatDoor
