/-
  The law ScriptCompiled, walked. Conditions: the package-level variables hold what the program lays.
-/
import Derived.Test.YtddnmocoaahlfaaGreatDoorLawA
import Derived.Test.YtddnmocoaahlfaaGreatDoorNum
import Derived.Deep.DeepCutAuto
set_option linter.unusedVariables false
set_option linter.unusedSimpArgs false
namespace Go.Proofs.YtddnmocoaahlfaaGreatDoor
open Go.RowKit Go.Shelf

theorem text_kind {k : Int} {f keep : List Int} {t : List UInt8} (h : textT k f keep = (t, 0)) : ∃ kn : Nat, k = kn := by
  unfold textT at h
  split at h
  · cases h
  · exact ⟨k.toNat, by omega⟩
set_option maxRecDepth 100000 in
set_option maxHeartbeats 8000000 in
theorem compiled_walk {w : World} (he : Env w) {k a b c d e : Int} {kv : Value} {kp : List Int} (hi : ∀ n ∈ [a, b, c, d, e] ++ kp, I64 n) (hkv : NRow w kv kp) (hm : kp.length ≤ maxLen) : Calls Tryz.prog 7 #[actV k a b c d e kv] w (RetT w) := by
  obtain ⟨p1, cc, rfl⟩ := hkv.form
  have hm' : kp.length ≤ 9223372036854775807 := by unfold maxLen at hm; omega
  obtain ⟨w1, hw1⟩ : ∃ w1, w1 = w.alloc (.cells #[.int .i64 k, .int .i64 a, .int .i64 b, .int .i64 c, .int .i64 d, .int .i64 e, .slice p1 kp.length cc] 24) := ⟨_, rfl⟩
  have l1 : Below w.heap.size w w1 := by rw [hw1]; exact (Below.refl _ _).alloc (Nat.le_refl _) _
  have bR : Blk w1 w.heap.size #[.int .i64 k, .int .i64 a, .int .i64 b, .int .i64 c, .int .i64 d, .int .i64 e, .slice p1 kp.length cc] 24 := by rw [hw1]; exact Blk.new w _ _
  have HA := Lib.hid (awake_any (he.below l1))
  have HW := Lib.hid hw1
  by_cases hbig : 16 < kp.length
  · have hd : decide ((16 : Int) < (kp.length : Int)) = true := decide_eq_true (by omega)
    clear he hkv hw1 bR
    go_enter Tryz.func7, Tryz.ntmps7
    go_wp2_with fail
    rw [← HW.out]
    refine HA.out.mono ?_
    rintro ex w2 ⟨rfl, b2⟩
    go_wp2_with fail
    go_ret
    exact ⟨rfl, l1.trans (b2.mono l1.size)⟩
  have hd : decide ((16 : Int) < (kp.length : Int)) = false := decide_eq_false (by omega)
  have HT := text_any (he.below l1) (kind := k) (a := a) (b := b) (c := c) (d := d) (e := e) hi (hkv.below l1)
  cases ht : textT k [a, b, c, d, e] kp with | mk t r =>
  rw [ht] at HT
  by_cases hr : r = 0
  rotate_left
  · have z0 : (r != 0) = true := by simp [hr]
    have HTT := Lib.hid HT
    have HE := Lib.hid he
    clear he hkv hw1 bR HT ht HA
    go_enter Tryz.func7, Tryz.ntmps7
    go_wp2_with fail
    rw [← HW.out]
    refine HTT.out.mono ?_
    rintro ex w2 ⟨b2, s, rfl, hs⟩
    have l2 := l1.trans (b2.mono l1.size)
    have HA := Lib.hid (awake_any (HE.out.below l2))
    clear hs
    go_wp2_with fail
    refine HA.out.mono ?_
    rintro ex w3 ⟨rfl, b3⟩
    go_wp2_with fail
    go_ret
    exact ⟨rfl, l2.trans (b3.mono l2.size)⟩
  subst hr
  obtain ⟨kn, rfl⟩ := text_kind ht
  have hcomp := compiled_law (f := [a, b, c, d, e]) (s := []) rfl ht hi
  rw [Int.toNat_natCast] at hcomp
  have HC := Lib.hid hcomp
  have HTT := Lib.hid HT
  have HE := Lib.hid he
  have HB := Lib.hid bR
  have HK := Lib.hid hkv
  clear he hkv hw1 bR HT ht HA hcomp hi
  go_enter Tryz.func7, Tryz.ntmps7
  go_wp2_with fail
  rw [← HW.out]
  refine HTT.out.mono ?_
  rintro ex w2 ⟨b2, s, rfl, hs⟩
  have l2 := l1.trans (b2.mono l1.size)
  have HS := Lib.hid hs
  have HB2 := Lib.hid (HB.out.below b2)
  have HK2 := Lib.hid (HK.out.below l2)
  have E2 := Lib.hid (HE.out.below l2)
  have hR2 : w.heap.size < w2.heap.size := HB2.out.lt
  have q1 : w2.cell? ⟨w.heap.size, 1, none⟩ = some (.int .i64 a) := (HB2.out.cell 1).trans rfl
  have q2 : w2.cell? ⟨w.heap.size, 2, none⟩ = some (.int .i64 b) := (HB2.out.cell 2).trans rfl
  have q3 : w2.cell? ⟨w.heap.size, 3, none⟩ = some (.int .i64 c) := (HB2.out.cell 3).trans rfl
  have q4 : w2.cell? ⟨w.heap.size, 4, none⟩ = some (.int .i64 d) := (HB2.out.cell 4).trans rfl
  have q5 : w2.cell? ⟨w.heap.size, 5, none⟩ = some (.int .i64 e) := (HB2.out.cell 5).trans rfl
  have q6 : w2.cell? ⟨w.heap.size, 6, none⟩ = some (.slice p1 kp.length cc) := (HB2.out.cell 6).trans rfl
  have W1 := Lib.hid (within_any a w2)
  have W2 := Lib.hid (within_any b w2)
  have W3 := Lib.hid (within_any c w2)
  have W4 := Lib.hid (within_any d w2)
  have W5 := Lib.hid (within_any e w2)
  clear hs HTT HW
  go_upto_region 6 with fail
  go_cut [5] (fun v wx => ∃ q : Bool, v = .bool q ∧ (q = true ↔ ∀ n ∈ [a, b, c, d, e], Within n) ∧ wx = w2)
  case first =>
    by_cases g1 : Within a
    · by_cases g2 : Within b
      · by_cases g3 : Within c
        · by_cases g4 : Within d
          · by_cases g5 : Within e
            · rw [decide_eq_true g1] at W1
              rw [decide_eq_true g2] at W2
              rw [decide_eq_true g3] at W3
              rw [decide_eq_true g4] at W4
              rw [decide_eq_true g5] at W5
              have G1 := Lib.hid g1
              have G2 := Lib.hid g2
              have G3 := Lib.hid g3
              have G4 := Lib.hid g4
              have G5 := Lib.hid g5
              clear g1 g2 g3 g4 g5
              go_wp2_with (first | (go_at_call 32; (with_reducible refine W1.out.mono ?_); rintro ex w3 ⟨rfl, rfl⟩) | (go_at_call 32; (with_reducible refine W2.out.mono ?_); rintro ex w3 ⟨rfl, rfl⟩) | (go_at_call 32; (with_reducible refine W3.out.mono ?_); rintro ex w3 ⟨rfl, rfl⟩) | (go_at_call 32; (with_reducible refine W4.out.mono ?_); rintro ex w3 ⟨rfl, rfl⟩) | (go_at_call 32; (with_reducible refine W5.out.mono ?_); rintro ex w3 ⟨rfl, rfl⟩))
              go_meet
              case rel => exact ⟨true, rfl, by simp only [true_iff, List.forall_mem_cons]; exact ⟨G1.out, G2.out, G3.out, G4.out, G5.out, fun n hn => by cases hn⟩, rfl⟩
            · rw [decide_eq_true g1] at W1
              rw [decide_eq_true g2] at W2
              rw [decide_eq_true g3] at W3
              rw [decide_eq_true g4] at W4
              rw [decide_eq_false g5] at W5
              have G1 := Lib.hid g1
              have G2 := Lib.hid g2
              have G3 := Lib.hid g3
              have G4 := Lib.hid g4
              have G5 := Lib.hid g5
              clear g1 g2 g3 g4 g5
              go_wp2_with (first | (go_at_call 32; (with_reducible refine W1.out.mono ?_); rintro ex w3 ⟨rfl, rfl⟩) | (go_at_call 32; (with_reducible refine W2.out.mono ?_); rintro ex w3 ⟨rfl, rfl⟩) | (go_at_call 32; (with_reducible refine W3.out.mono ?_); rintro ex w3 ⟨rfl, rfl⟩) | (go_at_call 32; (with_reducible refine W4.out.mono ?_); rintro ex w3 ⟨rfl, rfl⟩) | (go_at_call 32; (with_reducible refine W5.out.mono ?_); rintro ex w3 ⟨rfl, rfl⟩))
              go_meet
              case rel => exact ⟨false, rfl, by simp only [Bool.false_eq_true, false_iff]; intro hh; exact G5.out (hh e (by simp)), rfl⟩
          · rw [decide_eq_true g1] at W1
            rw [decide_eq_true g2] at W2
            rw [decide_eq_true g3] at W3
            rw [decide_eq_false g4] at W4
            have G1 := Lib.hid g1
            have G2 := Lib.hid g2
            have G3 := Lib.hid g3
            have G4 := Lib.hid g4
            clear g1 g2 g3 g4
            go_wp2_with (first | (go_at_call 32; (with_reducible refine W1.out.mono ?_); rintro ex w3 ⟨rfl, rfl⟩) | (go_at_call 32; (with_reducible refine W2.out.mono ?_); rintro ex w3 ⟨rfl, rfl⟩) | (go_at_call 32; (with_reducible refine W3.out.mono ?_); rintro ex w3 ⟨rfl, rfl⟩) | (go_at_call 32; (with_reducible refine W4.out.mono ?_); rintro ex w3 ⟨rfl, rfl⟩))
            go_meet
            case rel => exact ⟨false, rfl, by simp only [Bool.false_eq_true, false_iff]; intro hh; exact G4.out (hh d (by simp)), rfl⟩
        · rw [decide_eq_true g1] at W1
          rw [decide_eq_true g2] at W2
          rw [decide_eq_false g3] at W3
          have G1 := Lib.hid g1
          have G2 := Lib.hid g2
          have G3 := Lib.hid g3
          clear g1 g2 g3
          go_wp2_with (first | (go_at_call 32; (with_reducible refine W1.out.mono ?_); rintro ex w3 ⟨rfl, rfl⟩) | (go_at_call 32; (with_reducible refine W2.out.mono ?_); rintro ex w3 ⟨rfl, rfl⟩) | (go_at_call 32; (with_reducible refine W3.out.mono ?_); rintro ex w3 ⟨rfl, rfl⟩))
          go_meet
          case rel => exact ⟨false, rfl, by simp only [Bool.false_eq_true, false_iff]; intro hh; exact G3.out (hh c (by simp)), rfl⟩
      · rw [decide_eq_true g1] at W1
        rw [decide_eq_false g2] at W2
        have G1 := Lib.hid g1
        have G2 := Lib.hid g2
        clear g1 g2
        go_wp2_with (first | (go_at_call 32; (with_reducible refine W1.out.mono ?_); rintro ex w3 ⟨rfl, rfl⟩) | (go_at_call 32; (with_reducible refine W2.out.mono ?_); rintro ex w3 ⟨rfl, rfl⟩))
        go_meet
        case rel => exact ⟨false, rfl, by simp only [Bool.false_eq_true, false_iff]; intro hh; exact G2.out (hh b (by simp)), rfl⟩
    · rw [decide_eq_false g1] at W1
      have G1 := Lib.hid g1
      clear g1
      go_wp2_with (first | (go_at_call 32; (with_reducible refine W1.out.mono ?_); rintro ex w3 ⟨rfl, rfl⟩))
      go_meet
      case rel => exact ⟨false, rfl, by simp only [Bool.false_eq_true, false_iff]; intro hh; exact G1.out (hh a (by simp)), rfl⟩
  case rest =>
  obtain ⟨q, rfl, hq, rfl⟩ := hcut
  have HQ := Lib.hid hq
  clear hq W1 W2 W3 W4 W5 q1 q2 q3 q4 q5
  go_wp2_with fail
  go_loop [6, 5] (fun t v => ∃ (i : Nat) (q : Bool), t = .int .i64 i ∧ i ≤ kp.length ∧ v = .bool q ∧ (q = true ↔ ∀ n ∈ [a, b, c, d, e] ++ kp.take i, Within n)) (fun t v => kp.length - (intOf t).toNat)
  case atStart => exact ⟨0, q, rfl, Nat.zero_le _, rfl, by rw [List.take_zero, List.append_nil]; exact HQ.out⟩
  case round =>
    obtain ⟨i, q, rfl, hi, rfl, hq⟩ := hrel
    have HQ := Lib.hid hq
    clear hq
    by_cases hlt : i < kp.length
    · obtain ⟨L, o, rfl, ck⟩ := nrow_get HK2.out hlt
      have hcap : kp.length ≤ cc := (nrow_cap HK2.out).resolve_left (fun e => by rw [e] at hlt; simp at hlt)
      have htk : kp.take (i + 1) = kp.take i ++ [kp[i]] := List.take_succ_eq_append_getElem hlt
      have HTK := Lib.hid htk
      have HWI := Lib.hid (within_any kp[i] wc)
      obtain ⟨x, hx⟩ : ∃ x, x = kp[i] := ⟨_, rfl⟩
      rw [← hx] at ck HTK HWI
      clear htk hx
      cases q with
      | false =>
        go_wp2_with fail
        go_round
        case rel =>
          refine ⟨i + 1, false, by go_num, by omega, rfl, ?_⟩
          have h0 := HQ.out
          simp only [Bool.false_eq_true, false_iff] at h0 ⊢
          intro hh
          refine h0 fun n hn => hh n ?_
          rw [HTK.out]
          rcases List.mem_append.1 hn with hn | hn
          · simp only [List.mem_append]; exact .inl hn
          · simp only [List.mem_append]; exact .inr (.inl hn)
        case measure => simp [intOf]; omega
      | true =>
        go_wp2_with fail
        refine HWI.out.mono ?_
        rintro ex w3 ⟨rfl, rfl⟩
        go_wp2_with fail
        go_round
        case rel =>
          refine ⟨i + 1, decide (Within x), by go_num, by omega, rfl, ?_⟩
          have h0 := HQ.out
          simp only [true_iff] at h0
          rw [HTK.out, decide_eq_true_iff]
          constructor
          · intro hx n hn
            simp only [List.mem_append, List.mem_singleton] at hn
            rcases hn with hn | hn | hn
            · exact h0 n (by simp only [List.mem_append]; exact .inl hn)
            · exact h0 n (by simp only [List.mem_append]; exact .inr hn)
            · exact hn ▸ hx
          · intro hh; exact hh x (by simp)
        case measure => simp [intOf]; omega
    · have hik : i = kp.length := by omega
      have hc := comp_any E2.out s
      rw [HS.out] at hc
      unfold RetC at hc
      rw [HC.out] at hc
      have HQ2 := HQ.out
      rw [List.take_of_length_le (by omega)] at HQ2
      clear HQ
      cases q with
      | false =>
        rw [if_neg (by rw [← HQ2]; simp)] at hc
        have HCC := Lib.hid hc
        clear hc HQ2
        go_wp2_with fail
        refine HCC.out.mono ?_
        rintro ex w3 ⟨b3, v3, rfl, a3, n3⟩
        obtain ⟨p3, c3, rfl⟩ := a3.form
        have l3 := l2.trans (b3.mono l2.size)
        have HA := Lib.hid (awake_any (HE.out.below l3))
        clear a3 n3
        go_wp2_with fail
        refine HA.out.mono ?_
        rintro ex w4 ⟨rfl, b4⟩
        go_wp2_with fail
        go_ret
        exact ⟨rfl, l3.trans (b4.mono l3.size)⟩
      | true =>
        rw [if_pos (HQ2.1 rfl)] at hc
        have HCC := Lib.hid hc
        clear hc HQ2
        go_wp2_with fail
        refine HCC.out.mono ?_
        rintro ex w3 ⟨b3, v3, rfl, a3, n3⟩
        have l3 := l2.trans (b3.mono l2.size)
        obtain ⟨p3, c3, rfl, _, g3⟩ := a3.get
        obtain ⟨g, kv3, k3, a0, a1, a2, a4, a5, kp3, rfl, e2, nr3, hkl, ⟨r1, r2, r3, rfl⟩, x0, x1, x2, x3, x4, x5, x6⟩ := g3 0 (by simp)
        simp only [List.getElem_cons_zero] at e2
        injection e2 with i1 i2 i3
        injection i2 with i2 i4
        injection i4 with i4 i5
        injection i5 with i5 i6
        injection i6 with i6 i7
        injection i7 with i7 _
        subst i1 i2 i3 i4 i5 i6 i7
        simp only [Nat.zero_mul, Nat.zero_add] at x0 x1 x2 x3 x4 x5 x6
        have bR3 := HB2.out.below b3
        have hS : ∀ W, Below w3.heap.size w3 W → (W.cell? ⟨w.heap.size, 0, none⟩ = some (.int .i64 kn) ∧ W.cell? ⟨w.heap.size, 1, none⟩ = some (.int .i64 a) ∧ W.cell? ⟨w.heap.size, 2, none⟩ = some (.int .i64 b) ∧ W.cell? ⟨w.heap.size, 3, none⟩ = some (.int .i64 c) ∧ W.cell? ⟨w.heap.size, 4, none⟩ = some (.int .i64 d) ∧ W.cell? ⟨w.heap.size, 5, none⟩ = some (.int .i64 e) ∧ W.cell? ⟨w.heap.size, 6, none⟩ = some (.slice p1 kp.length cc) ∧ W.cell? ⟨g, 0, none⟩ = some (.int .i64 kn) ∧ W.cell? ⟨g, 1, none⟩ = some (.int .i64 a) ∧ W.cell? ⟨g, 2, none⟩ = some (.int .i64 b) ∧ W.cell? ⟨g, 3, none⟩ = some (.int .i64 c) ∧ W.cell? ⟨g, 4, none⟩ = some (.int .i64 d) ∧ W.cell? ⟨g, 5, none⟩ = some (.int .i64 e) ∧ W.cell? ⟨g, 6, none⟩ = some (.slice r1 r2 r3)) := fun W hW =>
          ⟨((Blk.below bR3 hW).cell 0).trans rfl, ((Blk.below bR3 hW).cell 1).trans rfl, ((Blk.below bR3 hW).cell 2).trans rfl, ((Blk.below bR3 hW).cell 3).trans rfl, ((Blk.below bR3 hW).cell 4).trans rfl, ((Blk.below bR3 hW).cell 5).trans rfl, ((Blk.below bR3 hW).cell 6).trans rfl, cell_below x0 hW, cell_below x1 hW, cell_below x2 hW, cell_below x3 hW, cell_below x4 hW, cell_below x5 hW, cell_below x6 hW⟩
        have S0 := Lib.hid hS
        have F1 := Lib.hid (show ∀ W, Below w3.heap.size w3 W → Calls Tryz.prog 22 #[actV kn a b c d e (.slice r1 r2 r3), actV kn a b c d e (.slice p1 kp.length cc)] W (fun ex w' => ex = .returned (.bool true) ∧ Below w3.heap.size w3 w') from fun W hW => (same_eq (nr3.below hW) ((HK2.out.below b3).below hW) hkl).mono fun ex w' ⟨y1, y2⟩ => ⟨y1, hW.trans (y2.mono hW.size)⟩)
        have F2 := Lib.hid (show ∀ W, Below w3.heap.size w3 W → Calls Tryz.prog 19 #[] W (fun ex w' => ex = .returned (.bool true) ∧ Below w3.heap.size w3 w') from fun W hW => (awake_any ((HE.out.below l3).below hW)).mono fun ex w' ⟨y1, y2⟩ => ⟨y1, hW.trans (y2.mono hW.size)⟩)
        clear hS bR3 x0 x1 x2 x3 x4 x5 x6 a3 n3 nr3 g3 q6
        have hlen1 : ([⟨kn, [a, b, c, d, e], kp⟩] : List Act5).length = 1 := rfl
        obtain ⟨s0, s1, s2, s3, s4, s5, s6, t0, t1, t2, t3, t4, t5, t6⟩ := S0.out w3 (Below.refl _ _)
        go_upto_region 14 with fail
        go_region_held3 (fun w' => w'.cell? ⟨w.heap.size, 0, none⟩ = some (.int .i64 kn) ∧ w'.cell? ⟨w.heap.size, 1, none⟩ = some (.int .i64 a) ∧ w'.cell? ⟨w.heap.size, 2, none⟩ = some (.int .i64 b) ∧ w'.cell? ⟨w.heap.size, 3, none⟩ = some (.int .i64 c) ∧ w'.cell? ⟨w.heap.size, 4, none⟩ = some (.int .i64 d) ∧ w'.cell? ⟨w.heap.size, 5, none⟩ = some (.int .i64 e) ∧ w'.cell? ⟨w.heap.size, 6, none⟩ = some (.slice p1 kp.length cc) ∧ w'.cell? ⟨g, 0, none⟩ = some (.int .i64 kn) ∧ w'.cell? ⟨g, 1, none⟩ = some (.int .i64 a) ∧ w'.cell? ⟨g, 2, none⟩ = some (.int .i64 b) ∧ w'.cell? ⟨g, 3, none⟩ = some (.int .i64 c) ∧ w'.cell? ⟨g, 4, none⟩ = some (.int .i64 d) ∧ w'.cell? ⟨g, 5, none⟩ = some (.int .i64 e) ∧ w'.cell? ⟨g, 6, none⟩ = some (.slice r1 r2 r3))
          (first
            | (go_split_ands; with_reducible exact ⟨by assumption, by assumption, by assumption, by assumption, by assumption, by assumption, by assumption, by assumption, by assumption, by assumption, by assumption, by assumption, by assumption, by assumption⟩)
            | (refine S0.out _ ?_; repeat (first | assumption | (with_reducible exact Below.refl _ _) | (with_reducible apply Below.drew))))
          (first
            | (go_at_call 22; (with_reducible refine (F1.out _ (by repeat (first | assumption | (with_reducible exact Below.refl _ _) | (with_reducible apply Below.drew)))).mono ?_); rintro ex wp ⟨rfl, bp⟩)
            | (go_at_call 19; (with_reducible refine (F2.out _ (by repeat (first | assumption | (with_reducible exact Below.refl _ _) | (with_reducible apply Below.drew)))).mono ?_); rintro ex wq ⟨rfl, bq⟩))
        all_goals (go_wp2_with fail; go_ret; exact ⟨rfl, l3.trans (Below.mono (by assumption) l3.size)⟩)
end Go.Proofs.YtddnmocoaahlfaaGreatDoor
