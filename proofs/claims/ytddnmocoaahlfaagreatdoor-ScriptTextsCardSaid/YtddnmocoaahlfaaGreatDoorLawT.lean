/-
  The law ScriptTexts, walked. Conditions: the package-level variables hold what the program lays; the row of numbers lies in memory.
-/
import Derived.Test.YtddnmocoaahlfaaGreatDoorRefT
set_option linter.unusedVariables false
set_option linter.unusedSimpArgs false
namespace Go.Proofs.YtddnmocoaahlfaaGreatDoor
open Go.RowKit Go.Shelf

theorem txt_inj {a b : ByteArray} (h : txt a = txt b) : a = b := by
  cases a; cases b
  simp only [txt] at h
  congr 1
  exact Array.toList_inj.1 h
set_option maxRecDepth 100000 in
set_option maxHeartbeats 8000000 in
theorem texts_walk {w : World} (he : Env w) {k a b c d e : Int} {kv : Value} {kp : List Int} (hi : ∀ n ∈ [a, b, c, d, e] ++ kp, I64 n) (hkv : NRow w kv kp) (hm : kp.length ≤ maxLen) : Calls Tryz.prog 5 #[actV k a b c d e kv] w (RetT w) := by
  obtain ⟨p1, cc, rfl⟩ := hkv.form
  have hm' : kp.length ≤ 9223372036854775807 := by unfold maxLen at hm; omega
  obtain ⟨w1, hw1⟩ : ∃ w1, w1 = w.alloc (.cells #[.int .i64 k, .int .i64 a, .int .i64 b, .int .i64 c, .int .i64 d, .int .i64 e, .slice p1 kp.length cc] 24) := ⟨_, rfl⟩
  have l1 : Below w.heap.size w w1 := by rw [hw1]; exact (Below.refl _ _).alloc (Nat.le_refl _) _
  have bR : Blk w1 w.heap.size #[.int .i64 k, .int .i64 a, .int .i64 b, .int .i64 c, .int .i64 d, .int .i64 e, .slice p1 kp.length cc] 24 := by rw [hw1]; exact Blk.new w _ _
  have HA := Lib.hid (awake_any (he.below l1))
  have HW := Lib.hid hw1
  by_cases hbig : 100 < kp.length
  · have hd : decide ((100 : Int) < (kp.length : Int)) = true := decide_eq_true (by omega)
    clear he hkv hw1 bR
    go_enter Tryz.func5, Tryz.ntmps5
    go_wp2_with fail
    rw [← HW.out]
    refine HA.out.mono ?_
    rintro ex w2 ⟨rfl, b2⟩
    go_wp2_with fail
    go_ret
    exact ⟨rfl, l1.trans (b2.mono l1.size)⟩
  have hd : decide ((100 : Int) < (kp.length : Int)) = false := decide_eq_false (by omega)
  have HT := Lib.hid (text_any (he.below l1) (kind := k) (a := a) (b := b) (c := c) (d := d) (e := e) hi (hkv.below l1))
  have HI := Lib.hid hi
  have HE := Lib.hid he
  have HK := Lib.hid hkv
  clear he hkv hw1 HA hi
  go_enter Tryz.func5, Tryz.ntmps5
  go_wp2_with fail
  rw [← HW.out]
  refine HT.out.mono ?_
  rintro ex w2 ⟨b2, s, rfl, hs⟩
  have l2 := l1.trans (b2.mono l1.size)
  have B2 := bR.below b2
  have s0 : w2.cell? ⟨w.heap.size, 0, none⟩ = some (.int .i64 k) := (B2.cell 0).trans rfl
  have s1 : w2.cell? ⟨w.heap.size, 1, none⟩ = some (.int .i64 a) := (B2.cell 1).trans rfl
  have s2 : w2.cell? ⟨w.heap.size, 2, none⟩ = some (.int .i64 b) := (B2.cell 2).trans rfl
  have s3 : w2.cell? ⟨w.heap.size, 3, none⟩ = some (.int .i64 c) := (B2.cell 3).trans rfl
  have s4 : w2.cell? ⟨w.heap.size, 4, none⟩ = some (.int .i64 d) := (B2.cell 4).trans rfl
  have s5 : w2.cell? ⟨w.heap.size, 5, none⟩ = some (.int .i64 e) := (B2.cell 5).trans rfl
  have s6 : w2.cell? ⟨w.heap.size, 6, none⟩ = some (.slice p1 kp.length cc) := (B2.cell 6).trans rfl
  have HR := Lib.hid (textR_any (k := k) HI.out (HK.out.below l2) hm)
  have HS := Lib.hid hs
  clear HT hs bR B2 HW
  go_wp2_with fail
  refine HR.out.mono ?_
  rintro ex w3 ⟨b3, s', rfl, hs'⟩
  have l3 := l2.trans (b3.mono l2.size)
  obtain rfl : s = s' := txt_inj (HS.out.trans hs'.symm)
  have HA := Lib.hid (awake_any (HE.out.below l3))
  clear hs' HR s0 s1 s2 s3 s4 s5 s6 HS
  generalize (textT k [a, b, c, d, e] kp).2 = r at *
  go_wp2_with fail
  refine HA.out.mono ?_
  rintro ex w4 ⟨rfl, b4⟩
  go_wp2_with fail
  go_ret
  exact ⟨rfl, l3.trans (b4.mono l3.size)⟩
end Go.Proofs.YtddnmocoaahlfaaGreatDoor
