/-
  The reference's SamePlant at equal plants. No condition but that the rows of strings lie in memory.
-/
import Derived.Test.YtddnmocoaahlfaaGreatDoorOpnP
import Derived.Test.YtddnmocoaahlfaaGreatDoorZr
import Derived.BigRegion
set_option linter.unusedVariables false
set_option linter.unusedSimpArgs false

namespace Go.Proofs.YtddnmocoaahlfaaGreatDoor
open Go.RowKit Go.Shelf
theorem srw_cap {w : World} {p : Option Addr} {n c : Nat} {l : List ByteArray} (h : SRw w (.slice p n c) l) : l = [] ∨ l.length ≤ c := by
  rcases h with ⟨rfl, _⟩ | ⟨_, L, o, c', h1, h2, h3⟩
  · exact .inl rfl
  · injection h1 with _ _ h1
    subst h1
    exact .inr h2
set_option maxRecDepth 100000 in
set_option maxHeartbeats 8000000 in
theorem samePlant_eq {w : World} {q : PV} {bv1 bv2 : Value} {ss : List ByteArray} (h1 : SRw w bv1 ss) (h2 : SRw w bv2 ss) (hl' : ss.length ≤ maxLen) : Calls Tryz.prog 27 #[.agg (q.cells bv1), .agg (q.cells bv2)] w (fun ex w' => ex = .returned (.bool true) ∧ Below w.heap.size w w') := by
  have hl : ss.length ≤ 9223372036854775807 := by unfold maxLen at hl'; omega
  obtain ⟨p1, c1, rfl⟩ := h1.form
  obtain ⟨p2, c2, rfl⟩ := h2.form
  obtain ⟨al, ln, ck, rows, cols, ream, bundle, dn, reprint, star, opn, sheets, presses, life, plates, dry, vaults, blocks⟩ := q
  obtain ⟨w1, hw1⟩ : ∃ w1, w1 = w.alloc (.cells (PV.cells ⟨al, ln, ck, rows, cols, ream, bundle, dn, reprint, star, opn, sheets, presses, life, plates, dry, vaults, blocks⟩ (.slice p1 ss.length c1)) 35) := ⟨_, rfl⟩
  obtain ⟨w2, hw2⟩ : ∃ w2, w2 = w1.alloc (.cells (PV.cells ⟨al, ln, ck, rows, cols, ream, bundle, dn, reprint, star, opn, sheets, presses, life, plates, dry, vaults, blocks⟩ (.slice p2 ss.length c2)) 35) := ⟨_, rfl⟩
  have z1 : w1.heap.size = w.heap.size + 1 := by rw [hw1]; simp
  have l2 : Below w.heap.size w w2 := by rw [hw2, hw1]; exact ((Below.refl _ _).alloc (Nat.le_refl _) _).alloc (by simp) _
  have bA : Blk w2 w.heap.size (PV.cells ⟨al, ln, ck, rows, cols, ream, bundle, dn, reprint, star, opn, sheets, presses, life, plates, dry, vaults, blocks⟩ (.slice p1 ss.length c1)) 35 := by rw [hw2, hw1]; exact (Blk.new w _ _).alloc _
  have bB : Blk w2 (w.heap.size + 1) (PV.cells ⟨al, ln, ck, rows, cols, ream, bundle, dn, reprint, star, opn, sheets, presses, life, plates, dry, vaults, blocks⟩ (.slice p2 ss.length c2)) 35 := by rw [hw2, ← z1]; exact Blk.new w1 _ _
  have R1 := Lib.hid (h1.below l2)
  have R2 := Lib.hid (h2.below l2)
  have HW1 := Lib.hid hw1
  have HW2 := Lib.hid hw2
  have BA := Lib.hid bA
  have BB := Lib.hid bB
  have y2 : w2.cell? ⟨w.heap.size, 2, none⟩ = some (.slice p1 ss.length c1) := (bA.cell 2).trans rfl
  have x2 : w2.cell? ⟨w.heap.size + 1, 2, none⟩ = some (.slice p2 ss.length c2) := (bB.cell 2).trans rfl
  have dl : ((ss.length : Int) != (ss.length : Int)) = false := by simp
  clear bA bB h1 h2 hw1 hw2 z1
  go_enter Tryz.func27, Tryz.ntmps27
  go_upto_region 1 with fail
  rw [← HW1.out, ← HW2.out]
  go_wp2_with fail
  go_loopw [5] (fun t wr => ∃ i : Nat, t = .int .i64 i ∧ i ≤ ss.length ∧ Below w2.heap.size w2 wr) (fun t wr => ss.length - (intOf t).toNat)
  case atStart => exact ⟨0, rfl, Nat.zero_le _, Below.refl _ _⟩
  case round =>
    obtain ⟨i, rfl, hi, hbr⟩ := hrel
    replace y2 := cell_below y2 hbr
    replace x2 := cell_below x2 hbr
    by_cases hlt : i < ss.length
    · obtain ⟨L1, o1, e1, cc1⟩ := srw_get R1.out hlt
      obtain ⟨L2, o2, e2, cc2⟩ := srw_get R2.out hlt
      subst e1
      subst e2
      have k1 := cell_below cc1 hbr
      have k2 := cell_below cc2 hbr
      have hlen := srw_cap R1.out
      have hlen2 := srw_cap R2.out
      have hcap1 : ss.length ≤ c1 := hlen.resolve_left (fun e => by rw [e] at hlt; simp at hlt)
      have hcap2 : ss.length ≤ c2 := hlen2.resolve_left (fun e => by rw [e] at hlt; simp at hlt)
      generalize ss[i] = x at *
      have dx : (x.toList == x.toList) = true := by simp
      clear cc1 cc2 hlen hlen2
      go_wp2_with fail
      go_quiet (fail)
      go_wp2_with fail
      go_roundw
      case rel => exact ⟨i + 1, by go_num, by omega, hbr.trans ((drewN_below wr _).mono hbr.size)⟩
      case measure => simp [intOf]; omega
    · have hil : i = ss.length := by omega
      have bA := BA.out.below hbr
      have bB := BB.out.below hbr
      have a0 : wr.cell? ⟨w.heap.size, 0, none⟩ = some (.string al) := (bA.cell 0).trans rfl
      have a1 : wr.cell? ⟨w.heap.size, 1, none⟩ = some (.int .i64 ln) := (bA.cell 1).trans rfl
      have a3 : wr.cell? ⟨w.heap.size, 3, none⟩ = some (.bool ck) := (bA.cell 3).trans rfl
      have a4 : wr.cell? ⟨w.heap.size, 4, none⟩ = some (.int .i64 rows) := (bA.cell 4).trans rfl
      have a5 : wr.cell? ⟨w.heap.size, 5, none⟩ = some (.int .i64 cols) := (bA.cell 5).trans rfl
      have a6 : wr.cell? ⟨w.heap.size, 6, none⟩ = some (.int .i64 ream) := (bA.cell 6).trans rfl
      have a7 : wr.cell? ⟨w.heap.size, 7, none⟩ = some (.int .i64 bundle) := (bA.cell 7).trans rfl
      have a8 : wr.cell? ⟨w.heap.size, 8, none⟩ = some (.bool dn) := (bA.cell 8).trans rfl
      have a9 : wr.cell? ⟨w.heap.size, 9, none⟩ = some (.int .i64 reprint) := (bA.cell 9).trans rfl
      have a10 : wr.cell? ⟨w.heap.size, 10, none⟩ = some (.int .i64 star) := (bA.cell 10).trans rfl
      have a11 : wr.cell? ⟨w.heap.size, 11, none⟩ = some (.int .i64 opn) := (bA.cell 11).trans rfl
      have a12 : wr.cell? ⟨w.heap.size, 12, none⟩ = some (.int .i64 sheets) := (bA.cell 12).trans rfl
      have a13 : wr.cell? ⟨w.heap.size, 13, none⟩ = some (.int .i64 presses) := (bA.cell 13).trans rfl
      have a14 : wr.cell? ⟨w.heap.size, 14, none⟩ = some (.int .i64 life) := (bA.cell 14).trans rfl
      have a15 : wr.cell? ⟨w.heap.size, 15, none⟩ = some (.int .i64 plates) := (bA.cell 15).trans rfl
      have a16 : wr.cell? ⟨w.heap.size, 16, none⟩ = some (.int .i64 dry) := (bA.cell 16).trans rfl
      have a17 : wr.cell? ⟨w.heap.size, 17, none⟩ = some (.int .i64 vaults) := (bA.cell 17).trans rfl
      have a18 : wr.cell? ⟨w.heap.size, 18, none⟩ = some (.int .i64 blocks) := (bA.cell 18).trans rfl
      have b0 : wr.cell? ⟨w.heap.size + 1, 0, none⟩ = some (.string al) := (bB.cell 0).trans rfl
      have b1 : wr.cell? ⟨w.heap.size + 1, 1, none⟩ = some (.int .i64 ln) := (bB.cell 1).trans rfl
      have b3 : wr.cell? ⟨w.heap.size + 1, 3, none⟩ = some (.bool ck) := (bB.cell 3).trans rfl
      have b4 : wr.cell? ⟨w.heap.size + 1, 4, none⟩ = some (.int .i64 rows) := (bB.cell 4).trans rfl
      have b5 : wr.cell? ⟨w.heap.size + 1, 5, none⟩ = some (.int .i64 cols) := (bB.cell 5).trans rfl
      have b6 : wr.cell? ⟨w.heap.size + 1, 6, none⟩ = some (.int .i64 ream) := (bB.cell 6).trans rfl
      have b7 : wr.cell? ⟨w.heap.size + 1, 7, none⟩ = some (.int .i64 bundle) := (bB.cell 7).trans rfl
      have b8 : wr.cell? ⟨w.heap.size + 1, 8, none⟩ = some (.bool dn) := (bB.cell 8).trans rfl
      have b9 : wr.cell? ⟨w.heap.size + 1, 9, none⟩ = some (.int .i64 reprint) := (bB.cell 9).trans rfl
      have b10 : wr.cell? ⟨w.heap.size + 1, 10, none⟩ = some (.int .i64 star) := (bB.cell 10).trans rfl
      have b11 : wr.cell? ⟨w.heap.size + 1, 11, none⟩ = some (.int .i64 opn) := (bB.cell 11).trans rfl
      have b12 : wr.cell? ⟨w.heap.size + 1, 12, none⟩ = some (.int .i64 sheets) := (bB.cell 12).trans rfl
      have b13 : wr.cell? ⟨w.heap.size + 1, 13, none⟩ = some (.int .i64 presses) := (bB.cell 13).trans rfl
      have b14 : wr.cell? ⟨w.heap.size + 1, 14, none⟩ = some (.int .i64 life) := (bB.cell 14).trans rfl
      have b15 : wr.cell? ⟨w.heap.size + 1, 15, none⟩ = some (.int .i64 plates) := (bB.cell 15).trans rfl
      have b16 : wr.cell? ⟨w.heap.size + 1, 16, none⟩ = some (.int .i64 dry) := (bB.cell 16).trans rfl
      have b17 : wr.cell? ⟨w.heap.size + 1, 17, none⟩ = some (.int .i64 vaults) := (bB.cell 17).trans rfl
      have b18 : wr.cell? ⟨w.heap.size + 1, 18, none⟩ = some (.int .i64 blocks) := (bB.cell 18).trans rfl
      have lr := l2.trans (hbr.mono l2.size)
      have LR := Lib.hid lr
      have d0 : (al.toList == al.toList) = true := by simp
      have hz1 : w.heap.size + 1 < wr.heap.size := bB.lt
      have hz0 : w.heap.size < wr.heap.size := bA.lt
      clear bA bB R1 R2 BA BB HW1 HW2 hbr l2
      go_wp2_with fail
      go_region
      all_goals
        go_wp2_with fail
        go_ret
        exact ⟨rfl, ((LR.out.alloc LR.out.size _).alloc (by simp; omega) _).drew⟩
end Go.Proofs.YtddnmocoaahlfaaGreatDoor
