/-
  The law ScriptOnly, walked. Conditions: the package-level variables hold what the program lays.
-/
import Derived.Test.YtddnmocoaahlfaaGreatDoorPlI
import Derived.Test.YtddnmocoaahlfaaGreatDoorZv
import Derived.Test.YtddnmocoaahlfaaGreatDoorOnl
import Derived.Test.YtddnmocoaahlfaaGreatDoorZt
import Derived.Test.YtddnmocoaahlfaaGreatDoorZr
import Derived.Test.YtddnmocoaahlfaaGreatDoorPrsP
import Derived.Test.YtddnmocoaahlfaaGreatDoorY4
import Derived.Deep.DeepCutAuto
set_option linter.unusedVariables false
set_option linter.unusedSimpArgs false

namespace Go.Proofs.YtddnmocoaahlfaaGreatDoor
open Go.RowKit Go.Shelf
theorem zero35 (w : World) : (Instr.alloc 35 true (.tuple #[])).run Tryz.prog w = .ok (.pointer (some ⟨w.heap.size, 0, none⟩)) (w.alloc (.cells (PV.zero.cells (.slice none 0 0)) 35)) := by kernel_rfl
theorem RetTE.zero {w : World} {t : List UInt8} {r : List UInt8 × Int} {e : Ending} {w' : World} (h : RetTE w r e w') (hr : r = (t, 0)) : Below w.heap.size w w' ∧ ∃ s : ByteArray, e = .returned (.tuple #[.string s, .int .i64 0]) ∧ txt s = t := by
  subst hr
  exact h
theorem sum_size : ∀ ss : List ByteArray, ((ss.map txt).map (fun b => b.length + 1)).sum = (ss.map (·.size)).sum + ss.length
  | [] => rfl
  | s :: ss => by
    have ih := sum_size ss
    have : (txt s).length = s.size := by simp
    simp only [List.map_cons, List.sum_cons, List.length_cons, this] at ih ⊢
    omega
set_option maxRecDepth 100000 in
set_option maxHeartbeats 8000000 in
theorem only_walk {w : World} (he : Env w) (hev : Evs w) (s : ByteArray) : Calls Tryz.prog 4 #[.string s] w (RetT w) := by
  have HA := Lib.hid (awake_any he)
  by_cases hbig : 5000 < s.size
  · have hd : decide ((5000 : Int) < (s.size : Int)) = true := decide_eq_true (by omega)
    clear he hev
    go_enter Tryz.func4, Tryz.ntmps4
    go_wp2_with fail
    refine HA.out.mono ?_
    rintro ex w2 ⟨rfl, b2⟩
    go_wp2_with fail
    go_ret
    exact ⟨rfl, b2⟩
  have hd : decide ((5000 : Int) < (s.size : Int)) = false := decide_eq_false (by omega)
  have hsz : (txt s).length ≤ 5000 := by simp; omega
  have HSZ := Lib.hid hsz
  have hp := parseP_any he s (by omega)
  have hp2 : ∀ W, Below w.heap.size w W → Calls Tryz.prog 24 #[.string s] W (RetEv W (parseEvT (txt s))) := fun W hW => parseEvP_any (he.below hW) (hev.below hW) s (by omega)
  have hp3 : ∀ W, Below w.heap.size w W → Calls Tryz.prog 26 #[.string s] W (RetPl W (parsePlantT (txt s))) := fun W hW => parsePlant_any (he.below hW) s (by omega)
  have h1 : (parseT (txt s)).2 = 0 → ∀ {w3 : World} {a b c d f : Int} {kv : Value}, Env w3 → (parseT (txt s)).1.f = [a, b, c, d, f] → NRow w3 kv (parseT (txt s)).1.keep → Calls Tryz.prog 20 #[actV (parseT (txt s)).1.kind a b c d f kv] w3 (fun e w' => e = .returned (.tuple #[.string s, .int .i64 0]) ∧ Below w3.heap.size w3 w') := fun h0 w3 a b c d f kv hE hf hk => by
    obtain ⟨q1, q2, q3, q4⟩ := act_only (a := (parseT (txt s)).1) (s := txt s) (by rw [← h0])
    rw [hf] at q1 q3
    refine (text_any (kind := (parseT (txt s)).1.kind) hE q3 hk).mono fun e w' h => ?_
    obtain ⟨hb, t, he, ht⟩ := h.zero q1
    rw [he, txt_inj' ht]
    exact ⟨rfl, hb⟩
  have h2 : (parseEvT (txt s)).2 = 0 → ∀ {w3 : World} {a b c : Int} {x : ByteArray}, Env w3 → Evs w3 → (parseEvT (txt s)).1.f = [a, b, c] → txt x = (parseEvT (txt s)).1.text → x.size ≤ 65536 → I64 a ∧ I64 b ∧ I64 c → Calls Tryz.prog 23 #[evA (parseEvT (txt s)).1.kind a b c x] w3 (fun e w' => e = .returned (.tuple #[.string s, .int .i64 0]) ∧ Below w3.heap.size w3 w') := fun h0 w3 a b c x hE hV hf hx hxz hi => by
    have q1 := ev_only (v := (parseEvT (txt s)).1) (s := txt s) (by rw [← h0])
    rw [hf, ← hx] at q1
    refine (evText_any hE hV hi.1 hi.2.1 hi.2.2 hxz).mono fun e w' h => ?_
    obtain ⟨hb, t, he, ht⟩ := h.zero q1
    rw [he, txt_inj' ht]
    exact ⟨rfl, hb⟩
  have h3 : (parsePlantT (txt s)).2.2 = 0 → ∀ {w3 : World} {q : PV} {bv : Value} {ss : List ByteArray}, Env w3 → SRw w3 bv ss → q.pl (ss.map txt) = (parsePlantT (txt s)).1 → Calls Tryz.prog 25 #[.agg (q.cells bv)] w3 (fun e w' => e = .returned (.tuple #[.string s, .int .i64 0]) ∧ Below w3.heap.size w3 w') := fun h0 w3 q bv ss hE hr hq => by
    have q1 := plant_only (p := (parsePlantT (txt s)).1) (m := (parsePlantT (txt s)).2.1) (t := txt s) (by rw [← h0])
    have q2 := parsePlant_ints (txt s)
    rw [← hq] at q1 q2
    have q3 := plantT_long q1
    have q4 : (q.pl (ss.map txt)).alphabet.length = q.al.size := by show (txt q.al).length = _; simp
    have q5 : ((q.pl (ss.map txt)).banned.map (fun b => b.length + 1)).sum = (ss.map (·.size)).sum + ss.length := sum_size ss
    rw [q4, q5] at q3
    obtain ⟨p, c, rfl⟩ := hr.form
    refine (plantText_wide hE.tab (q := q) hr rfl (by omega) (by unfold bytesOf; omega) q2).mono fun e w' h => ?_
    obtain ⟨hb, t, he, ht⟩ := h.zero q1
    rw [he, txt_inj' ht]
    exact ⟨rfl, hb⟩
  have hevi : ∀ (a b c : Int) (x : ByteArray), (parseEvT (txt s)).1.f = [a, b, c] → txt x = (parseEvT (txt s)).1.text → x.size ≤ 65536 ∧ I64 a ∧ I64 b ∧ I64 c := fun a b c x hf hx => by
    obtain ⟨g1, g2⟩ := parseEv_facts (txt s)
    rw [hf] at g1
    rw [← hx] at g2
    exact ⟨by simp at g2; omega, g1 _ (by simp), g1 _ (by simp), g1 _ (by simp)⟩
  have HP := Lib.hid hp
  have HP2 := Lib.hid hp2
  have HP3 := Lib.hid hp3
  have H1 := Lib.hid @h1
  have H2 := Lib.hid @h2
  have H3 := Lib.hid @h3
  have HI := Lib.hid hevi
  have HE := Lib.hid he
  have HEV := Lib.hid hev
  clear hp hp2 hp3 h1 h2 h3 hevi he hev HA hsz HSZ
  generalize parseT (txt s) = r1 at *
  generalize parseEvT (txt s) = r2 at *
  generalize parsePlantT (txt s) = r3 at *
  obtain ⟨⟨k1, f1, kp1⟩, e1⟩ := r1
  obtain ⟨⟨k2, f2, x2⟩, e2⟩ := r2
  obtain ⟨p3, m3, e3⟩ := r3
  go_enter Tryz.func4, Tryz.ntmps4
  go_wp2_with fail
  refine HP.out.mono ?_
  rintro ex w1 ⟨b1, a, b, c, d, f, p, n, m, rfl, hf, hn⟩
  simp only at hf hn ⊢
  obtain ⟨w2, hw2⟩ : ∃ w2, w2 = w1.alloc (.cells #[.int .i64 k1, .int .i64 a, .int .i64 b, .int .i64 c, .int .i64 d, .int .i64 f, .slice p n m] 24) := ⟨_, rfl⟩
  have b12 : Below w1.heap.size w1 w2 := by rw [hw2]; exact (Below.refl _ _).alloc (Nat.le_refl _) _
  have B2 : Blk w2 w1.heap.size #[.int .i64 k1, .int .i64 a, .int .i64 b, .int .i64 c, .int .i64 d, .int .i64 f, .slice p n m] 24 := by rw [hw2]; exact Blk.new w1 _ _
  have l2 := b1.trans (b12.mono b1.size)
  have HW2 := Lib.hid hw2
  have HN := Lib.hid (hn.below b12)
  have HF := Lib.hid hf
  clear hw2 hn hf HP
  go_upto_if 24 with fail
  rw [← HW2.out]
  go_cut [2] (fun v wx => v = .bool false ∧ Below w.heap.size w wx)
  case first =>
    by_cases h0 : e1 = 0
    · have z : (e1 == 0) = true := by simp [h0]
      have HT := Lib.hid (H1.out h0 (HE.out.below l2) HF.out HN.out)
      obtain ⟨s0, s1, s2, s3, s4, s5, s6⟩ := acts_cells B2
      clear HF HN h0 B2
      go_wp2_with fail
      refine HT.out.mono ?_
      rintro ex w3 ⟨rfl, b3⟩
      clear HT s0 s1 s2 s3 s4 s5 s6
      go_wp2_with fail
      go_meet
      exact ⟨rfl, l2.trans (b3.mono l2.size)⟩
    · have z : (e1 == 0) = false := by simp [h0]
      clear h0
      go_wp2_with fail
      go_meet
      exact ⟨rfl, l2⟩
  case rest =>
  obtain ⟨rfl, lc⟩ := hcut
  have HC := Lib.hid (HP2.out wc lc)
  clear B2 HN HF HW2 l2 b1 b12 HP2
  go_wp2_with fail
  refine HC.out.mono ?_
  rintro ex w3 ⟨b3, a', b', c', x, rfl, hf, hx⟩
  simp only at hf hx ⊢
  have l3 := lc.trans (b3.mono lc.size)
  obtain ⟨w4, hw4⟩ : ∃ w4, w4 = w3.alloc (.cells #[.int .i64 k2, .int .i64 a', .int .i64 b', .int .i64 c', .string x] 26) := ⟨_, rfl⟩
  have b34 : Below w3.heap.size w3 w4 := by rw [hw4]; exact (Below.refl _ _).alloc (Nat.le_refl _) _
  have B4 : Blk w4 w3.heap.size #[.int .i64 k2, .int .i64 a', .int .i64 b', .int .i64 c', .string x] 26 := by rw [hw4]; exact Blk.new w3 _ _
  have l4 := l3.trans (b34.mono l3.size)
  have HW4 := Lib.hid hw4
  have HF := Lib.hid hf
  have HX := Lib.hid hx
  clear hw4 hf hx HC
  go_upto_if 43 with fail
  rw [← HW4.out]
  go_cut [2] (fun v wx => v = .bool false ∧ Below w.heap.size w wx)
  case first =>
    by_cases h0 : e2 = 0
    · have z : (e2 == 0) = true := by simp [h0]
      have hi := HI.out _ _ _ _ HF.out HX.out
      have HT := Lib.hid (H2.out h0 (HE.out.below l4) (HEV.out.below l4) HF.out HX.out hi.1 hi.2)
      obtain ⟨s0, s1, s2, s3, s4⟩ := ev_cells B4
      clear HF HX h0 hi B4
      go_wp2_with fail
      refine HT.out.mono ?_
      rintro ex w5 ⟨rfl, b5⟩
      clear HT s0 s1 s2 s3 s4
      go_wp2_with fail
      go_meet
      exact ⟨rfl, l4.trans (b5.mono l4.size)⟩
    · have z : (e2 == 0) = false := by simp [h0]
      clear h0
      go_wp2_with fail
      go_meet
      exact ⟨rfl, l4⟩
  case rest =>
  obtain ⟨rfl, ld⟩ := hcut
  clear B4 HX HF HW4 l4 l3 b34 b3 lc
  have HC := Lib.hid (HP3.out _ ld)
  clear HP3
  go_wp2_with fail
  refine HC.out.mono ?_
  rintro ex w5 ⟨b5, q, bv, ss, rfl, hr, hq⟩
  simp only at hq ⊢
  obtain ⟨ba, bc, rfl⟩ := hr.form
  have l5 := ld.trans (b5.mono ld.size)
  obtain ⟨w6, hw6⟩ : ∃ w6, w6 = w5.alloc (.cells (PV.zero.cells (.slice none 0 0)) 35) := ⟨_, rfl⟩
  have b56 : Below w5.heap.size w5 w6 := by rw [hw6]; exact (Below.refl _ _).alloc (Nat.le_refl _) _
  have B6 : Blk w6 w5.heap.size (PV.zero.cells (.slice none 0 0)) 35 := by rw [hw6]; exact Blk.new w5 _ _
  have hst := blk_store (c' := q.cells (.slice ba ss.length bc)) B6 size35' rfl rfl
  have B7 := setRow_heap w6 w5.heap.size _ (q.cells (.slice ba ss.length bc)) 35 B6
  have b67 : Below w5.heap.size w5 (w6.setRow w5.heap.size (q.cells (.slice ba ss.length bc))) := b56.trans ((setRow_stays w6 w5.heap.size (q.cells (.slice ba ss.length bc))).below b56.size (fun j hj e => by have e' : j = w5.heap.size := e; omega))
  have hz := zero35 w5
  rw [← hw6] at hz
  have hq3 := H3.out
  have hcall : e3 = 0 → Calls Tryz.prog 25 #[.agg (q.cells (.slice ba ss.length bc))] (w6.setRow w5.heap.size (q.cells (.slice ba ss.length bc))) (fun e w' => e = .returned (.tuple #[.string s, .int .i64 0]) ∧ Below (w6.setRow w5.heap.size (q.cells (.slice ba ss.length bc))).heap.size (w6.setRow w5.heap.size (q.cells (.slice ba ss.length bc))) w') := fun h => H3.out h (HE.out.below (l5.trans (b67.mono l5.size))) (hr.below b67) hq
  obtain ⟨cs, hcs⟩ : ∃ cs, cs = q.cells (.slice ba ss.length bc) := ⟨_, rfl⟩
  have hcz : cs.size = 19 := by rw [hcs]; rfl
  rw [← hcs] at hst B7 b67 hcall ⊢
  obtain ⟨w7, hw7⟩ : ∃ w7, w7 = w6.setRow w5.heap.size cs := ⟨_, rfl⟩
  rw [← hw7] at hst B7 b67 hcall
  have l7 := l5.trans (b67.mono l5.size)
  have HZ := Lib.hid hz
  have HST := Lib.hid hst
  have HCALL := Lib.hid hcall
  have HCZ := Lib.hid hcz
  have HW7 := Lib.hid hw7
  clear hz hst hcall hw7 hcz hcs hq3 hq hr B6 b56 hw6 H3 HC H1 H2 HI
  go_upto_if 63 with (first | (refine wpList_val (o := ⟨some 10, _, _, _, _, _⟩) rfl (Instr.alloc 35 true _) rfl _ HZ.out ?_) | (refine wpList_unit (o := ⟨none, Op.store 35 (.tmp 10) _, _, _, _, _⟩) rfl rfl (Instr.storeAt 35 _ _) rfl HST.out ?_) | fail)
  have HA := Lib.hid (fun W hW => awake_any (HE.out.below (w' := W) hW))
  by_cases h0 : e3 = 0
  · have z : (e3 == 0) = true := by simp [h0]
    have HT := Lib.hid (HCALL.out h0)
    clear h0
    go_wp2_with (refine wpList_val (o := ⟨some 65, Op.load 35 _, _, _, _, _⟩) rfl (Instr.loadAt 35 _) rfl _ (pl_load B7 HCZ.out) ?_)
    refine HT.out.mono ?_
    rintro ex w8 ⟨rfl, b8⟩
    have l8 := l7.trans (b8.mono l7.size)
    go_wp2_with fail
    refine (HA.out w8 l8).mono ?_
    rintro ex w9 ⟨rfl, b9⟩
    go_wp2_with fail
    go_ret
    exact ⟨rfl, l8.trans (b9.mono l8.size)⟩
  · have z : (e3 == 0) = false := by simp [h0]
    clear h0
    go_wp2_with fail
    refine (HA.out w7 l7).mono ?_
    rintro ex w9 ⟨rfl, b9⟩
    go_wp2_with fail
    go_ret
    exact ⟨rfl, l7.trans (b9.mono l7.size)⟩
end Go.Proofs.YtddnmocoaahlfaaGreatDoor
