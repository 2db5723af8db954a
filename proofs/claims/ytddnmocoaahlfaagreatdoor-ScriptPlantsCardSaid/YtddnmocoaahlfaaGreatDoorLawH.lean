/-
  The law ScriptPlants, walked. Conditions: the package-level variables hold what the program lays.
-/
import Derived.Test.YtddnmocoaahlfaaGreatDoorZv
import Derived.Test.YtddnmocoaahlfaaGreatDoorAwake
set_option linter.unusedVariables false
set_option linter.unusedSimpArgs false
namespace Go.Proofs.YtddnmocoaahlfaaGreatDoor
open Go.RowKit Go.Shelf

theorem size35 : (Tryz.prog.info? 35).map (·.size) = some 19 := by kernel_rfl
/-- A whole plant is loaded. -/
theorem plant_load {w : World} {R : Nat} {cs : Array Value} (h : Blk w R cs 35) (hs : cs.size = 19) : (Instr.loadAt 35 (.pointer (some ⟨R, 0, none⟩))).run Tryz.prog w = .ok (.agg cs) w := by
  simp only [Instr.loadAt, Instr.sureAddr, Sem.run_bind, Sem.run_pure, Result.andThen_ok]
  exact run_loadVar_row w R 35 35 cs (0, 0) _ h Tryz.underlying35 rfl (by rw [size35, hs])
theorem plant_box (q : PV) (bv : Value) (w : World) : (Instr.box 35 (.agg (q.cells bv))).run Tryz.prog w = .ok (.pointer (some ⟨w.heap.size, 0, none⟩)) (w.alloc (.cells (q.cells bv) 35)) := by kernel_rfl
set_option maxRecDepth 100000 in
set_option maxHeartbeats 4000000 in
theorem plants_walk {w : World} (he : Env w) {q : PV} {bv : Value} {ss : List ByteArray} (hs : SRw w bv ss) (hm : ss.length ≤ maxLen) (hI : ∀ m ∈ (q.pl (ss.map txt)).ints, I64 m) : Calls Tryz.prog 15 #[.agg (q.cells bv)] w (RetT w) := by
  obtain ⟨p, c, rfl⟩ := hs.form
  obtain ⟨n, hn⟩ : ∃ n, ss.length = n := ⟨_, rfl⟩
  rw [hn] at hs hm ⊢
  have hbox := plant_box q (.slice p n c) w
  have hfew : ∀ W, Below w.heap.size w W → Calls Tryz.prog 18 #[.agg (q.cells (.slice p n c))] W (RetFew W q.al ss) := fun W hW => few_any (q := q) (hs.below hW) hn hm
  have htext : ss.length ≤ 100 → bytesOf q.al ss ≤ 4000 → ∀ W, Below w.heap.size w W → Calls Tryz.prog 25 #[.agg (q.cells (.slice p n c))] W (RetTE W (plantT (q.pl (ss.map txt)))) := fun h1 h2 W hW => plantText_any (he.below hW).tab (q := q) (hs.below hW) hn (by omega) h2 hI
  have htextR : ss.length ≤ 100 → bytesOf q.al ss ≤ 4000 → ∀ W, Below w.heap.size w W → Calls Tryz.prog 38 #[.agg (q.cells (.slice p n c))] W (RetTE W (plantT (q.pl (ss.map txt)))) := fun h1 h2 W hW => plantTextR_any (q := q) (hs.below hW) hn (by omega) h2 hI
  obtain ⟨cs, hcs⟩ : ∃ cs, cs = q.cells (.slice p n c) := ⟨_, rfl⟩
  have hz : cs.size = 19 := by rw [hcs]; rfl
  rw [← hcs] at hbox hfew htext htextR ⊢
  obtain ⟨r, hr⟩ : ∃ r, r = plantT (q.pl (ss.map txt)) := ⟨_, rfl⟩
  rw [← hr] at htext htextR
  obtain ⟨w1, hw1⟩ : ∃ w1, w1 = w.alloc (.cells cs 35) := ⟨_, rfl⟩
  have l1 : Below w.heap.size w w1 := by rw [hw1]; exact (Below.refl _ _).alloc (Nat.le_refl _) _
  have B1 : Blk w1 w.heap.size cs 35 := by rw [hw1]; exact Blk.new w _ _
  rw [← hw1] at hbox
  have HBOX := Lib.hid hbox
  have HF := Lib.hid hfew
  have HP := Lib.hid htext
  have HQ := Lib.hid htextR
  have HE := Lib.hid he
  have HZ := Lib.hid hz
  clear hbox hfew htext htextR hz hw1 hcs hs hn hI he hm hr
  obtain ⟨t, e⟩ := r
  go_enter Tryz.func15, Tryz.ntmps15
  go_upto_region 1 with (refine wpList_val (o := ⟨some 1, Op.box 35 _, _, _, _, _⟩) rfl (Instr.box 35 _) rfl _ HBOX.out ?_)
  go_wp2_with (refine wpList_val (o := ⟨some 7, Op.load 35 _, _, _, _, _⟩) rfl (Instr.loadAt 35 _) rfl _ (plant_load B1 HZ.out) ?_)
  refine (HF.out w1 l1).mono ?_
  rintro ex w2 ⟨b2, b, rfl, hb⟩
  have l2 := l1.trans (b2.mono l1.size)
  replace B1 := B1.below b2
  clear HF
  cases b with
  | false =>
    have HA := Lib.hid (awake_any (HE.out.below l2))
    go_wp2_with fail
    refine HA.out.mono ?_
    rintro ex w3 ⟨rfl, b3⟩
    go_wp2_with fail
    go_ret
    exact ⟨rfl, l2.trans (b3.mono l2.size)⟩
  | true =>
    obtain ⟨hl, hbb⟩ := hb rfl
    have HP2 := Lib.hid (HP.out hl hbb w2 l2)
    have HQ2 := Lib.hid (HQ.out hl hbb)
    clear hb hbb HP HQ hl
    go_wp2_with (refine wpList_val (o := ⟨some 12, Op.load 35 _, _, _, _, _⟩) rfl (Instr.loadAt 35 _) rfl _ (plant_load B1 HZ.out) ?_)
    refine HP2.out.mono ?_
    rintro ex w3 ⟨b3, s1, rfl, ht1⟩
    have l3 := l2.trans (b3.mono l2.size)
    replace B1 := B1.below b3
    have HT1 := Lib.hid ht1
    clear HP2 ht1
    go_wp2_with (refine wpList_val (o := ⟨some 17, Op.load 35 _, _, _, _, _⟩) rfl (Instr.loadAt 35 _) rfl _ (plant_load B1 HZ.out) ?_)
    refine (HQ2.out w3 l3).mono ?_
    rintro ex w4 ⟨b4, s2, rfl, ht2⟩
    have l4 := l3.trans (b4.mono l3.size)
    obtain rfl : s1 = s2 := txt_inj' (HT1.out.trans ht2.symm)
    have HA := Lib.hid (awake_any (HE.out.below l4))
    clear ht2 HT1 HQ2 B1
    go_wp2_with fail
    refine HA.out.mono ?_
    rintro ex w5 ⟨rfl, b5⟩
    go_wp2_with fail
    go_ret
    exact ⟨rfl, l4.trans (b5.mono l4.size)⟩
end Go.Proofs.YtddnmocoaahlfaaGreatDoor
