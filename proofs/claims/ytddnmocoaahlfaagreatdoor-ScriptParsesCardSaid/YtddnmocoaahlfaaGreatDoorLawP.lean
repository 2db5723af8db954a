/-
  The law ScriptParses, walked. Conditions: the package-level variables hold what the program lays.
-/
import Derived.Test.YtddnmocoaahlfaaGreatDoorPrsP
set_option linter.unusedVariables false
set_option linter.unusedSimpArgs false
namespace Go.Proofs.YtddnmocoaahlfaaGreatDoor
open Go.RowKit Go.Shelf

theorem parse_keep (s : List UInt8) : (parseT s).1.keep.length ≤ 16 := by
  unfold parseT parseAct
  cases undecAllL (cutAt 32 s).tail with
  | none => exact Nat.zero_le _
  | some l =>
    simp only
    split
    · exact Nat.zero_le _
    · split
      · exact Nat.zero_le _
      · rename_i h1 h2
        unfold makeActL
        split
        · show l.length ≤ 16
          omega
        · exact Nat.zero_le _
set_option maxRecDepth 100000 in
set_option maxHeartbeats 8000000 in
theorem parses_walk {w : World} (he : Env w) (s : ByteArray) : Calls Tryz.prog 13 #[.string s] w (RetT w) := by
  have HA := Lib.hid (awake_any he)
  by_cases hbig : 1000 < s.size
  · have hd : decide ((1000 : Int) < (s.size : Int)) = true := decide_eq_true (by omega)
    clear he
    go_enter Tryz.func13, Tryz.ntmps13
    go_wp2_with fail
    refine HA.out.mono ?_
    rintro e w1 ⟨rfl, b1⟩
    go_wp2_with fail
    go_ret
    exact ⟨rfl, b1⟩
  have hd : decide ((1000 : Int) < (s.size : Int)) = false := decide_eq_false (by omega)
  have HP := Lib.hid (parseP_any he s (by omega))
  have hkeep := parse_keep (txt s)
  generalize hr : parseT (txt s) = r at *
  have HR := Lib.hid hr
  have HE := Lib.hid he
  clear he HA hr
  go_enter Tryz.func13, Tryz.ntmps13
  go_wp2_with fail
  refine HP.out.mono ?_
  rintro e w1 ⟨b1, a, b, c, d, f, p, n, m, rfl, hf, hn⟩
  obtain ⟨w2, hw2⟩ : ∃ w2, w2 = w1.alloc (.cells #[.int .i64 r.1.kind, .int .i64 a, .int .i64 b, .int .i64 c, .int .i64 d, .int .i64 f, .slice p n m] 24) := ⟨_, rfl⟩
  have b12 : Below w1.heap.size w1 w2 := by rw [hw2]; exact (Below.refl _ _).alloc (Nat.le_refl _) _
  have B2 : Blk w2 w1.heap.size #[.int .i64 r.1.kind, .int .i64 a, .int .i64 b, .int .i64 c, .int .i64 d, .int .i64 f, .slice p n m] 24 := by rw [hw2]; exact Blk.new w1 _ _
  have l2 := b1.trans (b12.mono b1.size)
  have hq := parseR_any (w := w2) s (by omega)
  rw [HR.out] at hq
  have HQ := Lib.hid hq
  have HW2 := Lib.hid hw2
  have HN := Lib.hid (hn.below b12)
  have HF := Lib.hid hf
  clear hq hw2 hn hf HP
  go_wp2_with fail
  rw [← HW2.out]
  refine HQ.out.mono ?_
  rintro e w3 ⟨b3, a', b', c', d', f', p', n', m', rfl, hf', hn'⟩
  have heq := HF.out.symm.trans hf'
  simp only [List.cons.injEq, and_true] at heq
  obtain ⟨rfl, rfl, rfl, rfl, rfl⟩ := heq
  obtain ⟨w4, hw4⟩ : ∃ w4, w4 = w3.alloc (.cells #[.int .i64 r.1.kind, .int .i64 a, .int .i64 b, .int .i64 c, .int .i64 d, .int .i64 f, .slice p' n' m'] 24) := ⟨_, rfl⟩
  have b34 : Below w3.heap.size w3 w4 := by rw [hw4]; exact (Below.refl _ _).alloc (Nat.le_refl _) _
  have B4 : Blk w4 w3.heap.size #[.int .i64 r.1.kind, .int .i64 a, .int .i64 b, .int .i64 c, .int .i64 d, .int .i64 f, .slice p' n' m'] 24 := by rw [hw4]; exact Blk.new w3 _ _
  have B2' := (B2.below b3).below b34
  have l3 := l2.trans (b3.mono l2.size)
  have l4 := l3.trans (b34.mono l3.size)
  have hkl : r.1.keep.length ≤ maxLen := by unfold maxLen; omega
  have HS := Lib.hid (same_eq (w := w4) (k := r.1.kind) (a := a) (b := b) (c := c) (d := d) (e := f) ((HN.out.below b3).below b34) (hn'.below b34) hkl)
  obtain ⟨s0, s1, s2, s3, s4, s5, s6⟩ := acts_cells B2'
  obtain ⟨t0, t1, t2, t3, t4, t5, t6⟩ := acts_cells B4
  have HW4 := Lib.hid hw4
  have HE4 := Lib.hid (HE.out.below l4)
  clear hn' hf' B2 B2' B4 HQ HN hw4
  generalize r.2 = er at *
  go_upto_region 5 with fail
  rw [← HW4.out]
  go_wp2_with fail
  refine HS.out.mono ?_
  rintro e w5 ⟨rfl, b5⟩
  have l5 := l4.trans (b5.mono l4.size)
  have HA := Lib.hid (awake_any (HE4.out.below b5))
  clear s0 s1 s2 s3 s4 s5 s6 t0 t1 t2 t3 t4 t5 t6
  go_wp2_with fail
  refine HA.out.mono ?_
  rintro e w6 ⟨rfl, b6⟩
  go_wp2_with fail
  go_ret
  exact ⟨rfl, l5.trans (b6.mono l5.size)⟩
end Go.Proofs.YtddnmocoaahlfaaGreatDoor
