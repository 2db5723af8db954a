/-
  The contract of awake: it returns true.
  The contracts of fields, Same and SameActs, at acts that are the same.
  The law ScriptSpaced, walked. Conditions: the package-level variables hold what the program lays.
-/
import Derived.Test.YtddnmocoaahlfaaGreatDoorY41
import Derived.Test.YtddnmocoaahlfaaGreatDoorLine2
import Derived.Deep.RegionHeld3
import Derived.BigQuiet
import Derived.StillTailTactics
set_option linter.unusedVariables false
set_option linter.unusedSimpArgs false
set_option maxRecDepth 100000
set_option maxHeartbeats 8000000
namespace Go.Proofs.YtddnmocoaahlfaaGreatDoor
open Go.RowKit Go.Shelf
def awakeT : List UInt8 := [102, 111, 114, 32, 105, 32, 49, 32, 51, 10, 105, 102, 32, 105, 37, 50, 61, 49, 10, 109, 111, 117, 110, 116, 32, 105, 45, 49, 10, 101, 110, 100, 10, 101, 110, 100, 10]
theorem awake_comp : compileL awakeT = .ok [⟨1, [0, 0, 0, 0, 0], []⟩, ⟨1, [2, 0, 0, 0, 0], []⟩] := by kernel_rfl
theorem awake_text : textT 2 [0, 25, 0, 0, 0] [] = ([112, 114, 105, 110, 116, 32, 48, 32, 50, 53], 0) := by kernel_rfl
theorem row_cells {w : World} {b g : Nat} {e : TypeId} {size n cap : Nat} {xs : List Value} (h : w.ownsRow b e size (.slice (some ⟨g, 0, none⟩) n cap) n xs) (i : Nat) (hi : i < xs.length) : w.cell? ⟨g, i, none⟩ = some xs[i] := by
  rcases h.2 with ⟨h1, _⟩ | ⟨g', cap', cur, hv, _, hg, _, _, _, ht⟩
  · cases h1
  · injection hv with e1 e2 e3
    injection e1 with e1
    injection e1 with e1
    subst e1
    have : w.cell? ⟨g, i, none⟩ = cur[i]? := by simp [World.cell?, hg]
    rw [this]
    have hx : xs[i]? = some xs[i] := List.getElem?_eq_getElem hi
    rw [← hx]
    have hlen := h.1
    have hin : i < n * size := by omega
    rw [← ht, List.getElem?_take, if_pos hin]
    simp
set_option maxHeartbeats 4000000 in
theorem awake_any {w : World} (he : Env w) : Calls Tryz.prog 19 #[] w (fun e w' => e = .returned (.bool true) ∧ Below w.heap.size w w') := by
  have HC := compile_any he.maxv he.errR he.acts ⟨awakeT.toArray⟩
  have e1 : compileL (txt ⟨awakeT.toArray⟩) = .ok [⟨1, [0, 0, 0, 0, 0], []⟩, ⟨1, [2, 0, 0, 0, 0], []⟩] := awake_comp
  rw [e1] at HC
  have HCC := Lib.hid HC
  have HE := Lib.hid he
  clear HC e1 he
  go_enter Tryz.func19, Tryz.ntmps19
  go_wp2_with fail
  refine HCC.out.mono ?_
  rintro ex w1 ⟨b1, _, v, rfl, kvs, hrow, hk⟩
  unfold KeepAll at hk
  obtain ⟨kv0, kvs1, rfl, _, hk⟩ := hk
  unfold KeepAll at hk
  obtain ⟨kv1, kvs2, rfl, _, hk⟩ := hk
  unfold KeepAll at hk
  subst hk
  have hv : ∃ g cap, v = .slice (some ⟨g, 0, none⟩) 2 cap := by
    rcases hrow.2 with ⟨_, h⟩ | ⟨g, cap, _, h, _⟩
    · cases h
    · exact ⟨g, cap, h⟩
  obtain ⟨g, cap, rfl⟩ := hv
  have k0 : w1.cell? ⟨g, 0, none⟩ = some (.int .i64 1) := row_cells hrow 0 (by simp [actsCells, actCells])
  have k8 : w1.cell? ⟨g, 8, none⟩ = some (.int .i64 2) := row_cells hrow 8 (by simp [actsCells, actCells])
  have HT := text_any (HE.out.below b1) (kind := 2) (a := 0) (b := 25) (c := 0) (d := 0) (e := 0) (kv := .slice none 0 0) (kp := []) (by intro n hn; simp at hn; rcases hn with rfl | rfl | rfl <;> (unfold I64; omega)) (.inl ⟨rfl, _, _, rfl⟩)
  rw [awake_text] at HT
  have HTT := Lib.hid HT
  clear HT hrow
  go_wp2_with fail
  refine HTT.out.mono ?_
  rintro ex w2 ⟨b2, s, rfl, hs⟩
  have k0' := cell_below k0 b2
  have k8' := cell_below k8 b2
  have d1 : (s.toList == [112, 114, 105, 110, 116, 32, 48, 32, 50, 53]) = true := by rw [lit_str']; exact decide_eq_true hs
  clear k0 k8 hs
  go_wp2_with fail
  go_ret
  exact ⟨rfl, b1.trans (b2.mono b1.size)⟩
end Go.Proofs.YtddnmocoaahlfaaGreatDoor
namespace Go.Proofs.YtddnmocoaahlfaaGreatDoor
open Go.RowKit Go.Shelf
abbrev actV (k a b c d e : Int) (kv : Value) : Value := .agg #[.int .i64 k, .int .i64 a, .int .i64 b, .int .i64 c, .int .i64 d, .int .i64 e, kv]
set_option maxHeartbeats 4000000 in
theorem fields_any {w : World} {k a b c d e : Int} {kv : Value} (hkv : ∃ p n cc, kv = .slice p n cc) : Calls Tryz.prog 47 #[actV k a b c d e kv] w (fun ex w' => ex = .returned (.agg #[.int .i64 a, .int .i64 b, .int .i64 c, .int .i64 d, .int .i64 e]) ∧ Below w.heap.size w w') := by
  obtain ⟨kp, kn, kc, rfl⟩ := hkv
  go_enter Tryz.func47, Tryz.ntmps47
  go_wp2_with fail
  obtain ⟨w1, hw1⟩ : ∃ w1, w1 = (w.alloc (.cells #[.int .i64 k, .int .i64 a, .int .i64 b, .int .i64 c, .int .i64 d, .int .i64 e, .slice kp kn kc] 24)).alloc (.cells #[.int .i64 a, .int .i64 b, .int .i64 c, .int .i64 d, .int .i64 e] 90) := ⟨_, rfl⟩
  have bl : Below w.heap.size w w1 := by rw [hw1]; exact ((Below.refl _ _).alloc (Nat.le_refl _) _).alloc (by simp) _
  have bB : Blk w1 (w.heap.size + 1) #[.int .i64 a, .int .i64 b, .int .i64 c, .int .i64 d, .int .i64 e] 90 := by
    rw [hw1]
    have := Blk.new (w.alloc (.cells #[.int .i64 k, .int .i64 a, .int .i64 b, .int .i64 c, .int .i64 d, .int .i64 e, .slice kp kn kc] 24)) #[.int .i64 a, .int .i64 b, .int .i64 c, .int .i64 d, .int .i64 e] 90
    simpa using this
  rw [← hw1]
  have y0 : w1.cell? ⟨w.heap.size + 1, 0, none⟩ = some (.int .i64 a) := (bB.cell 0).trans rfl
  have y1 : w1.cell? ⟨w.heap.size + 1, 1, none⟩ = some (.int .i64 b) := (bB.cell 1).trans rfl
  have y2 : w1.cell? ⟨w.heap.size + 1, 2, none⟩ = some (.int .i64 c) := (bB.cell 2).trans rfl
  have y3 : w1.cell? ⟨w.heap.size + 1, 3, none⟩ = some (.int .i64 d) := (bB.cell 3).trans rfl
  have y4 : w1.cell? ⟨w.heap.size + 1, 4, none⟩ = some (.int .i64 e) := (bB.cell 4).trans rfl
  clear hw1 bB
  refine ⟨rfl, .agg #[.int .i64 a, .int .i64 b, .int .i64 c, .int .i64 d, .int .i64 e], ?_, rfl, bl⟩
  simp [results, Tryz.results47, go_sem, y0, y1, y2, y3, y4]
theorem eq90 (a b c d e : Int) (w : World) : (Op.equalIn 10000 90 (.agg #[.int .i64 a, .int .i64 b, .int .i64 c, .int .i64 d, .int .i64 e]) (.agg #[.int .i64 a, .int .i64 b, .int .i64 c, .int .i64 d, .int .i64 e])).run Tryz.prog w = .ok true w := by
  have u3 := Tryz.underlying3
  have a3 := Tryz.isAgg3
  have z3 := Tryz.sizeOf3
  rw [show (10000 : Nat) = 9999 + 1 from rfl, Op.equalIn]
  simp only [Sem.run_bind, run_underlying Tryz.underlying90, Result.andThen_ok]
  simp only [Sem.run_bind, z3, Result.andThen_ok]
  rw [Std.Legacy.Range.forIn_eq_forIn_range']
  simp [go_sem, u3, a3, z3, List.range']
theorem nrow_get {w : World} {p : Option Addr} {n c : Nat} {l : List Int} (h : NRow w (.slice p n c) l) {i : Nat} (hi : i < l.length) : ∃ L o, p = some ⟨L, o, none⟩ ∧ w.cell? ⟨L, o + i, none⟩ = some (.int .i64 l[i]) := by
  rcases h with ⟨rfl, _⟩ | ⟨_, L, o, c', h1, _, h3⟩
  · simp at hi
  · injection h1 with h1 _ _
    exact ⟨L, o, h1, h3 i hi⟩
theorem nrow_cap {w : World} {p : Option Addr} {n c : Nat} {l : List Int} (h : NRow w (.slice p n c) l) : l = [] ∨ l.length ≤ c := by
  rcases h with ⟨rfl, _⟩ | ⟨_, L, o, c', h1, h2, h3⟩
  · exact .inl rfl
  · injection h1 with _ _ h1
    subst h1
    exact .inr h2
theorem same_eq {w : World} {k a b c d e : Int} {kv1 kv2 : Value} {l : List Int} (h1 : NRow w kv1 l) (h2 : NRow w kv2 l) (hl' : l.length ≤ maxLen) : Calls Tryz.prog 22 #[actV k a b c d e kv1, actV k a b c d e kv2] w (fun ex w' => ex = .returned (.bool true) ∧ Below w.heap.size w w') := by
  have hl : l.length ≤ 9223372036854775807 := by unfold maxLen at hl'; omega
  obtain ⟨p1, c1, rfl⟩ := h1.form
  obtain ⟨p2, c2, rfl⟩ := h2.form
  obtain ⟨w1, hw1⟩ : ∃ w1, w1 = w.alloc (.cells #[.int .i64 k, .int .i64 a, .int .i64 b, .int .i64 c, .int .i64 d, .int .i64 e, .slice p1 l.length c1] 24) := ⟨_, rfl⟩
  obtain ⟨w2, hw2⟩ : ∃ w2, w2 = w1.alloc (.cells #[.int .i64 k, .int .i64 a, .int .i64 b, .int .i64 c, .int .i64 d, .int .i64 e, .slice p2 l.length c2] 24) := ⟨_, rfl⟩
  have z1 : w1.heap.size = w.heap.size + 1 := by rw [hw1]; simp
  have l2 : Below w.heap.size w w2 := by rw [hw2, hw1]; exact ((Below.refl _ _).alloc (Nat.le_refl _) _).alloc (by simp) _
  have bA : Blk w2 w.heap.size #[.int .i64 k, .int .i64 a, .int .i64 b, .int .i64 c, .int .i64 d, .int .i64 e, .slice p1 l.length c1] 24 := by rw [hw2, hw1]; exact (Blk.new w _ _).alloc _
  have bB : Blk w2 (w.heap.size + 1) #[.int .i64 k, .int .i64 a, .int .i64 b, .int .i64 c, .int .i64 d, .int .i64 e, .slice p2 l.length c2] 24 := by rw [hw2, ← z1]; exact Blk.new w1 _ _
  have hS : ∀ w', Below w2.heap.size w2 w' → (w'.cell? ⟨w.heap.size, 0, none⟩ = some (.int .i64 k) ∧ w'.cell? ⟨w.heap.size, 1, none⟩ = some (.int .i64 a) ∧ w'.cell? ⟨w.heap.size, 2, none⟩ = some (.int .i64 b) ∧ w'.cell? ⟨w.heap.size, 3, none⟩ = some (.int .i64 c) ∧ w'.cell? ⟨w.heap.size, 4, none⟩ = some (.int .i64 d) ∧ w'.cell? ⟨w.heap.size, 5, none⟩ = some (.int .i64 e) ∧ w'.cell? ⟨w.heap.size, 6, none⟩ = some (.slice p1 l.length c1) ∧ w'.cell? ⟨w.heap.size + 1, 0, none⟩ = some (.int .i64 k) ∧ w'.cell? ⟨w.heap.size + 1, 1, none⟩ = some (.int .i64 a) ∧ w'.cell? ⟨w.heap.size + 1, 2, none⟩ = some (.int .i64 b) ∧ w'.cell? ⟨w.heap.size + 1, 3, none⟩ = some (.int .i64 c) ∧ w'.cell? ⟨w.heap.size + 1, 4, none⟩ = some (.int .i64 d) ∧ w'.cell? ⟨w.heap.size + 1, 5, none⟩ = some (.int .i64 e) ∧ w'.cell? ⟨w.heap.size + 1, 6, none⟩ = some (.slice p2 l.length c2)) := fun w' hb =>
    ⟨((Blk.below bA hb).cell 0).trans rfl, ((Blk.below bA hb).cell 1).trans rfl, ((Blk.below bA hb).cell 2).trans rfl, ((Blk.below bA hb).cell 3).trans rfl, ((Blk.below bA hb).cell 4).trans rfl, ((Blk.below bA hb).cell 5).trans rfl, ((Blk.below bA hb).cell 6).trans rfl, ((Blk.below bB hb).cell 0).trans rfl, ((Blk.below bB hb).cell 1).trans rfl, ((Blk.below bB hb).cell 2).trans rfl, ((Blk.below bB hb).cell 3).trans rfl, ((Blk.below bB hb).cell 4).trans rfl, ((Blk.below bB hb).cell 5).trans rfl, ((Blk.below bB hb).cell 6).trans rfl⟩
  have S0 := Lib.hid hS
  have F1 := Lib.hid (show ∀ W, Below w2.heap.size w2 W → Calls Tryz.prog 47 #[actV k a b c d e (.slice p1 l.length c1)] W (fun ex w' => ex = .returned (.agg #[.int .i64 a, .int .i64 b, .int .i64 c, .int .i64 d, .int .i64 e]) ∧ Below w2.heap.size w2 w') from fun W hW => (fields_any ⟨_, _, _, rfl⟩).mono fun ex w' ⟨x1, x2⟩ => ⟨x1, hW.trans (x2.mono hW.size)⟩)
  have F2 := Lib.hid (show ∀ W, Below w2.heap.size w2 W → Calls Tryz.prog 47 #[actV k a b c d e (.slice p2 l.length c2)] W (fun ex w' => ex = .returned (.agg #[.int .i64 a, .int .i64 b, .int .i64 c, .int .i64 d, .int .i64 e]) ∧ Below w2.heap.size w2 w') from fun W hW => (fields_any ⟨_, _, _, rfl⟩).mono fun ex w' ⟨x1, x2⟩ => ⟨x1, hW.trans (x2.mono hW.size)⟩)
  have R1 := Lib.hid (h1.below l2)
  have R2 := Lib.hid (h2.below l2)
  have HW1 := Lib.hid hw1
  have HW2 := Lib.hid hw2
  have hwv : ∃ wv, wv = w2 := ⟨_, rfl⟩
  clear hS bA bB h1 h2 hw1 hw2 z1
  have dk : (k != k) = false := by simp
  have d90 := eq90 a b c d e
  have dl : ((l.length : Int) != (l.length : Int)) = false := by simp
  go_enter Tryz.func22, Tryz.ntmps22
  go_upto_region 1 with fail
  rw [← HW1.out, ← HW2.out]
  obtain ⟨s0, s1, s2, s3, s4, s5, s6, t0, t1, t2, t3, t4, t5, t6⟩ := S0.out w2 (Below.refl _ _)
  go_cut [26] (fun v wx => v = .bool false ∧ Below w2.heap.size w2 wx)
  case first =>
    go_region_held3 (fun w' => w'.cell? ⟨w.heap.size, 0, none⟩ = some (.int .i64 k) ∧ w'.cell? ⟨w.heap.size, 1, none⟩ = some (.int .i64 a) ∧ w'.cell? ⟨w.heap.size, 2, none⟩ = some (.int .i64 b) ∧ w'.cell? ⟨w.heap.size, 3, none⟩ = some (.int .i64 c) ∧ w'.cell? ⟨w.heap.size, 4, none⟩ = some (.int .i64 d) ∧ w'.cell? ⟨w.heap.size, 5, none⟩ = some (.int .i64 e) ∧ w'.cell? ⟨w.heap.size, 6, none⟩ = some (.slice p1 l.length c1) ∧ w'.cell? ⟨w.heap.size + 1, 0, none⟩ = some (.int .i64 k) ∧ w'.cell? ⟨w.heap.size + 1, 1, none⟩ = some (.int .i64 a) ∧ w'.cell? ⟨w.heap.size + 1, 2, none⟩ = some (.int .i64 b) ∧ w'.cell? ⟨w.heap.size + 1, 3, none⟩ = some (.int .i64 c) ∧ w'.cell? ⟨w.heap.size + 1, 4, none⟩ = some (.int .i64 d) ∧ w'.cell? ⟨w.heap.size + 1, 5, none⟩ = some (.int .i64 e) ∧ w'.cell? ⟨w.heap.size + 1, 6, none⟩ = some (.slice p2 l.length c2))
      (first
        | (go_split_ands; with_reducible exact ⟨by assumption, by assumption, by assumption, by assumption, by assumption, by assumption, by assumption, by assumption, by assumption, by assumption, by assumption, by assumption, by assumption, by assumption⟩)
        | (refine S0.out _ ?_; repeat (first | assumption | (with_reducible exact Below.refl _ _) | (with_reducible apply Below.drew))))
      (first
        | (go_at_call 47; (with_reducible refine (F1.out _ (by repeat (first | assumption | (with_reducible exact Below.refl _ _) | (with_reducible apply Below.drew)))).mono ?_); rintro ex wp ⟨rfl, bp⟩)
        | (go_at_call 47; (with_reducible refine (F2.out _ (by repeat (first | assumption | (with_reducible exact Below.refl _ _) | (with_reducible apply Below.drew)))).mono ?_); rintro ex wq ⟨rfl, bq⟩))
    all_goals (go_wp2_with fail; go_meet; exact ⟨rfl, by assumption⟩)
  case rest =>
    clear s0 s1 s2 s3 s4 s5 s6 t0 t1 t2 t3 t4 t5 t6 F1 F2 d90
    obtain ⟨rfl, hb⟩ := hcut
    go_wp2_with fail
    go_loopw [5] (fun t wr => ∃ i : Nat, t = .int .i64 i ∧ i ≤ l.length ∧ Below w2.heap.size w2 wr) (fun t wr => l.length - (intOf t).toNat)
    case atStart => exact ⟨0, rfl, Nat.zero_le _, hb⟩
    case round =>
      obtain ⟨i, rfl, hi, hbr⟩ := hrel
      obtain ⟨s0, s1, s2, s3, s4, s5, s6, t0, t1, t2, t3, t4, t5, t6⟩ := S0.out wr hbr
      clear s0 s1 s2 s3 s4 s5 t0 t1 t2 t3 t4 t5
      by_cases hlt : i < l.length
      · obtain ⟨L1, o1, e1, cc1⟩ := nrow_get R1.out hlt
        obtain ⟨L2, o2, e2, cc2⟩ := nrow_get R2.out hlt
        subst e1
        subst e2
        have k1 := cell_below cc1 hbr
        have k2 := cell_below cc2 hbr
        have hlen := nrow_cap R1.out
        have hlen2 := nrow_cap R2.out
        have dx : (l[i] != l[i]) = false := by simp
        generalize l[i] = x at *
        clear cc1 cc2
        go_wp2_with fail
        go_quiet (fail)
        go_wp2_with fail
        go_roundw
        case rel => exact ⟨i + 1, by go_num, by omega, hbr.trans ((drewN_below wr _).mono hbr.size)⟩
        case measure => simp [intOf]; omega
      · have hil : i = l.length := by omega
        go_wp2_with fail
        go_ret
        exact ⟨rfl, l2.trans (hbr.mono l2.size)⟩
theorem nrow_of {w : World} {b : Nat} {v : Value} {l : List Int} (h : IRow w b v l) : NRow w v l := by
  by_cases h0 : l = []
  · subst h0
    rcases irow_form h with ⟨rfl, _⟩ | ⟨L, cap, rfl, _⟩
    · exact .inl ⟨rfl, _, _, rfl⟩
    · exact .inl ⟨rfl, _, _, rfl⟩
  · have hp := List.length_pos_iff.2 h0
    rcases h.2 with ⟨_, h1⟩ | ⟨g, cap, cur, rfl, _, hg, hnc, _⟩
    · omega
    · refine .inr ⟨h0, g, 0, cap, rfl, hnc, fun j hj => ?_⟩
      have := row_get h hp j (by simpa using hj)
      rw [Nat.zero_add, this]
      simp
theorem irow_max {w : World} {b : Nat} {v : Value} {l : List Int} (h : IRow w b v l) : l.length ≤ maxLen := by
  rcases h.2 with ⟨_, h1⟩ | ⟨g, cap, cur, _, _, _, h1, h2, _⟩
  · rw [h1]; exact Nat.zero_le _
  · exact Nat.le_trans h1 h2
theorem actsCells_get {w : World} {b : Nat} : ∀ {ac : List Act5} {kvs : List Value}, KeepAll w b ac kvs → ∀ i (hi : i < ac.length), ∃ kv k a0 a1 a2 a3 a4 kp, ac[i] = ⟨k, [a0, a1, a2, a3, a4], kp⟩ ∧ NRow w kv kp ∧ kp.length ≤ maxLen ∧ (∃ p n c, kv = .slice p n c) ∧
    ∀ j u, ([.int .i64 k, .int .i64 a0, .int .i64 a1, .int .i64 a2, .int .i64 a3, .int .i64 a4, kv] : List Value)[j]? = some u → (actsCells ac kvs)[i * 7 + j]? = some u
  | [], kvs, h, i, hi => by simp at hi
  | a :: ac, kvs, h, i, hi => by
    unfold KeepAll at h
    obtain ⟨kv, kvs', rfl, ⟨h1, h5⟩, h2⟩ := h
    obtain ⟨k, f, kp⟩ := a
    obtain ⟨a0, a1, a2, a3, a4, hf⟩ := five h5
    simp only at hf h1
    subst hf
    cases i with
    | zero =>
      refine ⟨kv, k, a0, a1, a2, a3, a4, kp, rfl, nrow_of h1, irow_max h1, irow_slice h1, fun j u hj => ?_⟩
      have hj7 : j < 7 := by have := (List.getElem?_eq_some_iff.1 hj).1; simpa using this
      show (actCells ⟨k, [a0, a1, a2, a3, a4], kp⟩ kv ++ actsCells ac kvs')[0 * 7 + j]? = some u
      rw [Nat.zero_mul, Nat.zero_add, List.getElem?_append_left (by simp [actCells]; omega)]
      exact hj
    | succ i =>
      obtain ⟨kv2, k2, b0, b1, b2, b3, b4, kp2, e1, e2, e0, e3, e4⟩ := actsCells_get h2 i (by simpa using hi)
      refine ⟨kv2, k2, b0, b1, b2, b3, b4, kp2, by simpa using e1, e2, e0, e3, fun j u hj => ?_⟩
      show (actCells ⟨k, [a0, a1, a2, a3, a4], kp⟩ kv ++ actsCells ac kvs')[(i + 1) * 7 + j]? = some u
      rw [List.getElem?_append_right (by simp [actCells]; omega)]
      have : (i + 1) * 7 + j - (actCells ⟨k, [a0, a1, a2, a3, a4], kp⟩ kv).length = i * 7 + j := by simp [actCells]; omega
      rw [this]
      exact e4 j u hj
theorem ActsAt.get {w : World} {b : Nat} {v : Value} {ac : List Act5} (h : ActsAt w b v ac) : ∃ p c, v = .slice p ac.length c ∧ (ac.length ≤ c ∨ ac = []) ∧ ∀ i (hi : i < ac.length), ∃ g kv k a0 a1 a2 a3 a4 kp, p = some ⟨g, 0, none⟩ ∧ ac[i] = ⟨k, [a0, a1, a2, a3, a4], kp⟩ ∧ NRow w kv kp ∧ kp.length ≤ maxLen ∧ (∃ p n c, kv = .slice p n c) ∧
    w.cell? ⟨g, i * 7, none⟩ = some (.int .i64 k) ∧ w.cell? ⟨g, i * 7 + 1, none⟩ = some (.int .i64 a0) ∧ w.cell? ⟨g, i * 7 + 2, none⟩ = some (.int .i64 a1) ∧ w.cell? ⟨g, i * 7 + 3, none⟩ = some (.int .i64 a2) ∧ w.cell? ⟨g, i * 7 + 4, none⟩ = some (.int .i64 a3) ∧ w.cell? ⟨g, i * 7 + 5, none⟩ = some (.int .i64 a4) ∧ w.cell? ⟨g, i * 7 + 6, none⟩ = some kv := by
  obtain ⟨kvs, h1, h2⟩ := h
  rcases h1.2 with ⟨rfl, h0⟩ | ⟨g, cap, cur, rfl, _, hg, hnc, _⟩
  · exact ⟨none, 0, by rw [h0], .inr (List.length_eq_zero_iff.1 h0), fun i hi => by omega⟩
  · refine ⟨_, cap, rfl, .inl hnc, fun i hi => ?_⟩
    obtain ⟨kv, k, a0, a1, a2, a3, a4, kp, e1, e2, e0, e3, e4⟩ := actsCells_get h2 i hi
    have hc : ∀ j u, ([.int .i64 k, .int .i64 a0, .int .i64 a1, .int .i64 a2, .int .i64 a3, .int .i64 a4, kv] : List Value)[j]? = some u → w.cell? ⟨g, i * 7 + j, none⟩ = some u := fun j u hj => by
      obtain ⟨q1, q2⟩ := List.getElem?_eq_some_iff.1 (e4 j u hj)
      rw [row_cells h1 _ q1, q2]
    exact ⟨g, kv, k, a0, a1, a2, a3, a4, kp, rfl, e1, e2, e0, e3, hc 0 _ rfl, hc 1 _ rfl, hc 2 _ rfl, hc 3 _ rfl, hc 4 _ rfl, hc 5 _ rfl, hc 6 _ rfl⟩
theorem sameActs_eq {w : World} {b1 b2 : Nat} {v1 v2 : Value} {ac : List Act5} (h1 : ActsAt w b1 v1 ac) (h2 : ActsAt w b2 v2 ac) (hl : ac.length ≤ 4096) : Calls Tryz.prog 31 #[v1, v2] w (fun ex w' => ex = .returned (.bool true) ∧ Below w.heap.size w w') := by
  obtain ⟨p1, c1, rfl, hc1, g1⟩ := h1.get
  obtain ⟨p2, c2, rfl, hc2, g2⟩ := h2.get
  have G1 := Lib.hid g1
  have G2 := Lib.hid g2
  have dl : ((ac.length : Int) != (ac.length : Int)) = false := by simp
  clear g1 g2 h1 h2
  go_enter Tryz.func31, Tryz.ntmps31
  go_wp2_with fail
  go_loopw [5] (fun t wr => ∃ i : Nat, t = .int .i64 i ∧ i ≤ ac.length ∧ Below w.heap.size w wr) (fun t wr => ac.length - (intOf t).toNat)
  case atStart => exact ⟨0, rfl, Nat.zero_le _, Below.refl _ _⟩
  case round =>
    obtain ⟨i, rfl, hi, hbr⟩ := hrel
    by_cases hlt : i < ac.length
    · obtain ⟨ga, kv1, k, a0, a1, a2, a3, a4, kp, e1, e2, n1, hkl, ⟨q1, q2, q3, rfl⟩, x0, x1, x2, x3, x4, x5, x6⟩ := G1.out i hlt
      obtain ⟨gb, kv2, k', b0, b1, b2, b3, b4, kp', e1', e2', n2, _, ⟨r1, r2, r3, rfl⟩, y0, y1, y2, y3, y4, y5, y6⟩ := G2.out i hlt
      rw [e2] at e2'
      injection e2' with i1 i2 i3
      injection i2 with i2 i4
      injection i4 with i4 i5
      injection i5 with i5 i6
      injection i6 with i6 i7
      injection i7 with i7 _
      subst e1 e1' i1 i2 i3 i4 i5 i6 i7
      have HS := Lib.hid (show ∀ W, Below wr.heap.size wr W → Calls Tryz.prog 22 #[actV k a0 a1 a2 a3 a4 (.slice q1 q2 q3), actV k a0 a1 a2 a3 a4 (.slice r1 r2 r3)] W (fun ex w' => ex = .returned (.bool true) ∧ Below wr.heap.size wr w') from fun W hW =>
        (same_eq ((n1.below hbr).below hW) ((n2.below hbr).below hW) hkl).mono fun ex w' ⟨z1, z2⟩ => ⟨z1, hW.trans (z2.mono hW.size)⟩)
      replace x0 := cell_below x0 hbr
      replace x1 := cell_below x1 hbr
      replace x2 := cell_below x2 hbr
      replace x3 := cell_below x3 hbr
      replace x4 := cell_below x4 hbr
      replace x5 := cell_below x5 hbr
      replace x6 := cell_below x6 hbr
      replace y0 := cell_below y0 hbr
      replace y1 := cell_below y1 hbr
      replace y2 := cell_below y2 hbr
      replace y3 := cell_below y3 hbr
      replace y4 := cell_below y4 hbr
      replace y5 := cell_below y5 hbr
      replace y6 := cell_below y6 hbr
      have hcap1 : ac.length ≤ c1 := hc1.resolve_right (fun e => by rw [e] at hlt; simp at hlt)
      have hcap2 : ac.length ≤ c2 := hc2.resolve_right (fun e => by rw [e] at hlt; simp at hlt)
      clear e2 n1 n2
      go_wp2_with fail
      go_still_tail 8, (by kernel_rfl)
      go_wp2_with fail
      refine (HS.out _ (Below.refl _ _).drew).mono ?_
      rintro ex w3 ⟨rfl, b3⟩
      go_wp2_with fail
      go_roundw
      case rel => exact ⟨i + 1, by go_num, by omega, hbr.trans (b3.mono hbr.size)⟩
      case measure => simp [intOf]; omega
    · have hil : i = ac.length := by omega
      go_wp2_with fail
      go_ret
      exact ⟨rfl, hbr⟩
end Go.Proofs.YtddnmocoaahlfaaGreatDoor
namespace Go.Proofs.YtddnmocoaahlfaaGreatDoor
open Go.RowKit Go.Shelf
def RetC (w : World) (t : List UInt8) (e : Ending) (w' : World) : Prop := Below w.heap.size w w' ∧ ∃ v, e = .returned (.tuple #[v, .int .i64 (compT t).2.1, .int .i64 (compT t).2.2]) ∧ ActsAt w' w.heap.size v (compT t).1 ∧ (compT t).1.length ≤ 4096
theorem comp_any {w : World} (he : Env w) (s : ByteArray) : Calls Tryz.prog 29 #[.string s] w (RetC w (txt s)) := by
  refine (compile_any he.maxv he.errR he.acts s).mono ?_
  rintro e w' ⟨h1, h2⟩
  unfold RetC compT
  cases hc : compileL (txt s) with
  | error ke =>
    obtain ⟨k, c⟩ := ke
    rw [hc] at h2
    exact ⟨h1, _, h2, ⟨[], World.ownsRow_nil _ _ _ _, by unfold KeepAll; rfl⟩, by simp⟩
  | ok acts =>
    rw [hc] at h2
    obtain ⟨h3, v, h4, h5⟩ := h2
    exact ⟨h1, v, h4, h5, h3⟩
theorem ActsAt.below {w w' : World} {b : Nat} {v : Value} {ac : List Act5} (h : ActsAt w b v ac) (hb : Below w.heap.size w w') : ActsAt w' b v ac := h.typed (RowsKept.below hb)
theorem ActsAt.form {w : World} {b : Nat} {v : Value} {ac : List Act5} (h : ActsAt w b v ac) : ∃ p c, v = .slice p ac.length c := let ⟨p, c, h1, _⟩ := h.get; ⟨p, c, h1⟩
abbrev RetT (w : World) (e : Ending) (w' : World) : Prop := e = .returned (.bool true) ∧ Below w.heap.size w w'
end Go.Proofs.YtddnmocoaahlfaaGreatDoor
