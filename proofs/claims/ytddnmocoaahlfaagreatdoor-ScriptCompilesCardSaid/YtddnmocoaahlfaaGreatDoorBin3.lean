/-
  The contract of binary at line 3 of the grammar. Condition: texts of at most 65536 bytes; the variable of the range error holds an error or none.
-/
import Derived.Test.YtddnmocoaahlfaaGreatDoorY32
set_option linter.unusedVariables false
set_option linter.unusedSimpArgs false
namespace Go.Proofs.YtddnmocoaahlfaaGreatDoor
open Go.RowKit
set_option maxRecDepth 100000 in
set_option maxHeartbeats 4000000 in
theorem bin_step3 {op : Nat} {sub : Reads} (hsub : BinC op sub 12 1) (heat : Eats sub) {ops : ByteArray} {gf : FuncId} {sv : Bool} (hl : LevAt 3 ops gf sv) : BinC op (levelE (txt ops) sv sub) 9 2 := by
  intro w R L s at_ h hs ha he hL
  have h6 := he.ne h
  have hne := hL.ne h
  have hRlt := h.lt
  obtain ⟨res, hres⟩ : ∃ res, res = levelE (txt ops) sv sub ((txt s).drop at_) := ⟨_, rfl⟩
  rw [← hres]
  have HC := Lib.hid (hsub w R L s at_ h hs ha he hL)
  obtain ⟨r1, hr1⟩ : ∃ r, sub ((txt s).drop at_) = r := ⟨_, rfl⟩
  rw [hr1] at HC
  cases r1 with
  | none =>
    rw [levelE_none hr1] at hres
    subst hres
    clear hr1 hl
    go_enter Tryz.func111, Tryz.ntmps111
    go_wp2_with fail
    refine HC.out.mono ?_
    rintro e w1 ⟨hst, rfl⟩
    exact ⟨rfl, hst, rfl⟩
  | some p =>
    obtain ⟨a0, t0⟩ := p
    have HG := Lib.hid (ToGo.start (ops := txt ops) (sv := sv) hr1)
    rw [← hres] at HG
    clear hres hr1
    have LL := Lib.hid (show ∀ W, Stays (fun j => j = R) w W → W.cell? ⟨L, 9, none⟩ = some (.string ops) ∧ W.cell? ⟨L, 10, none⟩ = some (.func (.func gf) #[] #[]) ∧ W.cell? ⟨L, 11, none⟩ = some (.bool sv) ∧ Lev W L from fun W hW =>
      have hb : Blk W L levCells 206 := Lev.stays hL hW hne
      ⟨(hb.cell 9).trans hl.c0, (hb.cell 10).trans hl.c1, (hb.cell 11).trans hl.c2, hb⟩)
    have HO := Lib.hid hl.op
    have hosm := hl.small
    have HS := Lib.hid hsub
    clear hl hsub
    go_enter Tryz.func111, Tryz.ntmps111
    go_wp2_with fail
    refine HC.out.mono ?_
    rintro e w1 ⟨hst1, g1, c1, at1, rfl, hle1, hdr1, hp1, hx1⟩
    go_wp2_with fail
    go_loopg [5, 6] (s.size - at1) (fun g v n wr => ∃ (cnt at2 g2 : Nat) (c2 : Array Value) (a : Ex), at2 + g = s.size ∧ v = .func (.func g2) #[] c2 ∧ n = .int .i64 cnt ∧ cnt ≤ at2 ∧ Par wr R s at2 op ∧ ExC (New w wr) wr g2 c2 a ∧ Stays (fun j => j = R) w wr ∧ ToGo (txt ops) sv sub cnt a ((txt s).drop at2) res)
    case atStart => exact ⟨0, at1, g1, c1, a0, by omega, rfl, rfl, Nat.zero_le _, hp1, hx1, hst1, by rw [hdr1]; exact HG.out⟩
    case round =>
      obtain ⟨cnt, at2, g2, c2, a, hg, rfl, rfl, hcnt, hp2, hx2, hst2, hto⟩ := hrel
      have HTO := Lib.hid hto
      clear hto HG HC
      have hle2 : at2 ≤ s.size := by omega
      obtain ⟨ll0, ll1, ll2, hL2⟩ := LL.out wr hst2
      have HP := Lib.hid (peek_ret hp2 hs)
      obtain ⟨d, hd⟩ : ∃ d, d = byteAt s at2 := ⟨_, rfl⟩
      rw [← hd] at HP
      have HD := Lib.hid hd
      clear hd
      by_cases hgo : cnt = 0 ∨ sv = true
      · have hnum := byteNum d 0 (by decide)
        have HGO := Lib.hid hgo
        go_upto_region 5 with fail
        go_cut [27] (fun x wx => x = .bool true ∧ wr = wx)
        case first =>
          by_cases hc0 : cnt = 0
          · have hci : ((cnt : Int) == 0) = true := by rw [hc0]; rfl
            clear hgo hc0
            go_wp2_with fail
            go_meet
            exact ⟨rfl, rfl⟩
          · have hci : ((cnt : Int) == 0) = false := by simp; omega
            have hsv : sv = true := hgo.resolve_left hc0
            subst hsv
            clear hgo hc0
            go_wp2_with fail
            go_meet
            exact ⟨rfl, rfl⟩
        obtain ⟨rfl, rfl⟩ := hcut
        clear hgo
        cases hin : hasB ops d with
        | false =>
          have HRES := Lib.hid (ToGo.none HTO.out (by
            rcases Nat.lt_or_ge at2 s.size with h | h
            · exact .inr ⟨_, _, drop_byte h, by rw [← HD.out]; exact hin⟩
            · exact .inl (drop_end h)))
          have hcon := contains_any ops d
          simp only [hin] at hcon
          have HK := Lib.hid (fun w => hcon w hosm)
          clear hcon HTO
          go_wp2_with fail
          refine HP.out.mono ?_
          rintro e w3 ⟨rfl, b3⟩
          clear ll0 ll1 ll2 hL2
          go_wp2_with fail
          obtain ⟨w4, hw4⟩ : ∃ W : World, W = w3.alloc (.cells #[.int .u8 d.toNat] 5) := ⟨_, rfl⟩
          rw [← hw4]
          have bS : Blk w4 w3.heap.size #[.int .u8 d.toNat] 5 := by rw [hw4]; exact Blk.new _ _ _
          have b4 : Below w3.heap.size w3 w4 := by rw [hw4]; exact (Below.refl _ _).alloc (Nat.le_refl _) _
          obtain ⟨S, hS⟩ : ∃ S, S = w3.heap.size := ⟨_, rfl⟩
          rw [← hS] at bS ⊢
          have hst4 := (hst2.next b3).next b4
          have hp4 := (hp2.below b3).below b4
          have hx4 := (hx2.below b3).below b4
          have hsz4 : wr.heap.size ≤ w4.heap.size := Nat.le_trans b3.size b4.size
          clear hw4 hS b4
          have s0 : w4.cell? ⟨S, 0, none⟩ = some (.int .u8 d.toNat) := (bS.cell 0).trans rfl
          obtain ⟨m0, m1, m2, hL4⟩ := LL.out w4 hst4
          cases hd0 : (d == 0) with
          | true =>
            have hdz : ((d.toNat : Int) == 0) = true := by rw [show (0 : Int) = ((0 : Nat) : Int) from rfl, hnum]; exact hd0
            clear hnum hd0
            go_quiet (fail)
            go_wp2_with fail
            go_ret
            rw [HRES.out]
            exact ⟨hst4.drewN _, g2, c2, at2, rfl, hle2, rfl, hp4, exDrewN (hx4.wider (New.mono (Nat.le_refl _) hsz4) (fun k h => h.2))⟩
          | false =>
            have hdz : ((d.toNat : Int) == 0) = false := by rw [show (0 : Int) = ((0 : Nat) : Int) from rfl, hnum]; exact hd0
            clear hnum hd0
            go_quiet ((go_at_call 138; (with_reducible exact Calls.quiet_of_same (HK.out _))))
            go_wp2_with fail
            go_ret
            rw [HRES.out]
            exact ⟨hst4.drewN _, g2, c2, at2, rfl, hle2, rfl, hp4, exDrewN (hx4.wider (New.mono (Nat.le_refl _) hsz4) (fun k h => h.2))⟩
        | true =>
          have hd0 := (HO.out d hin).1
          have hop := (HO.out d hin).2
          have hdz : ((d.toNat : Int) == 0) = false := by rw [show (0 : Int) = ((0 : Nat) : Int) from rfl, hnum]; simpa using hd0
          have hcon := contains_any ops d
          simp only [hin] at hcon
          have HK := Lib.hid (fun w => hcon w hosm)
          clear hcon hnum
          go_wp2_with fail
          refine HP.out.mono ?_
          rintro e w3 ⟨rfl, b3⟩
          clear ll0 ll1 ll2 hL2
          go_wp2_with fail
          obtain ⟨w4, hw4⟩ : ∃ W : World, W = w3.alloc (.cells #[.int .u8 d.toNat] 5) := ⟨_, rfl⟩
          rw [← hw4]
          have bS : Blk w4 w3.heap.size #[.int .u8 d.toNat] 5 := by rw [hw4]; exact Blk.new _ _ _
          have b4 : Below w3.heap.size w3 w4 := by rw [hw4]; exact (Below.refl _ _).alloc (Nat.le_refl _) _
          obtain ⟨S, hS⟩ : ∃ S, S = w3.heap.size := ⟨_, rfl⟩
          rw [← hS] at bS ⊢
          have hSge : wr.heap.size ≤ S := by rw [hS]; exact b3.size
          have hst4 := (hst2.next b3).next b4
          have hsz4 : wr.heap.size ≤ w4.heap.size := Nat.le_trans b3.size b4.size
          have hSw : S < w4.heap.size := bS.lt
          have hp4 := (hp2.below b3).below b4
          have hx4 := (hx2.below b3).below b4
          clear hw4 hS b4
          have s0 : w4.cell? ⟨S, 0, none⟩ = some (.int .u8 d.toNat) := (bS.cell 0).trans rfl
          obtain ⟨m0, m1, m2, hL4⟩ := LL.out w4 hst4
          obtain ⟨k0, k1, k2, f1, f2⟩ := hp4.facts
          go_quiet ((go_at_call 138; (with_reducible exact Calls.quiet_of_same (HK.out _))))
          go_wp2_with fail
          obtain ⟨w5, hw5⟩ : ∃ W : World, W = (w4.drewN nq).setCell ⟨R, 1, none⟩ (.int .i64 ((at2 : Int) + 1)) := ⟨_, rfl⟩
          have hp5 : Par w5 R s (at2 + 1) op := by rw [hw5]; exact (hp4.drewN nq).setAt (at2 + 1)
          have hst45 : Stays (fun j => j = R) w4 w5 := by rw [hw5]; exact ((Stays.refl (fun j => j = R) w4).drewN nq).set (p := ⟨R, 1, none⟩) (.inl rfl) _
          have hst5 := hst4.trans hst45
          have hR5 : R < w5.heap.size := hp5.lt
          have hx5 : ExC (New w w5) w5 g2 c2 a := (hx4.stays hst45 (fun k hk e => by have := hk.1; omega)).wider (New.mono (Nat.le_refl _) (Nat.le_trans hsz4 hst45.size)) (fun k h => h.2)
          have bS5 : Blk w5 S #[.int .u8 d.toNat] 5 := Blk.stays bS hst45 (fun e => by have := hst2.size; omega)
          obtain ⟨n0, n1, n2, hL5⟩ := LL.out w5 hst5
          have he5 := he.stays hst5 (fun e => h6 e.symm)
          rw [← hw5]
          have hlt2 : at2 < s.size := by
            rcases Nat.lt_or_ge at2 s.size with h | h
            · exact h
            · exact absurd ((HD.out).trans (byteAt_ge h)) hd0
          have hC2 : ∀ W, Below w5.heap.size w5 W → Calls Tryz.prog 111 #[.pointer (some ⟨R, 0, none⟩), .slice (some ⟨L, 12, none⟩) 1 1] W (Rd W R s op (sub ((txt s).drop (at2 + 1)))) := fun W hW => HS.out W R L s (at2 + 1) (hp5.below hW) hs (by omega) (he5.below hW) (Blk.below hL5 hW)
          have HDR := Lib.hid (drop_byte hlt2)
          clear hw5 hp4 hx4 bS hL4 s0 m0 m1 m2 k0 k1 k2 f1 f2 n0 n2 hst45
          obtain ⟨r2, hr2⟩ : ∃ r, sub ((txt s).drop (at2 + 1)) = r := ⟨_, rfl⟩
          rw [hr2] at hC2
          have HC2 := Lib.hid hC2
          have HF := Lib.hid (show r2 = none → res = none from fun h => ToGo.fail (c := d) (t := (txt s).drop (at2 + 1)) (by rw [HD.out, ← HDR.out]; exact HTO.out) HGO.out hin (hr2.trans h))
          have HR2 := Lib.hid hr2
          clear hC2 hr2
          go_upto_region 10 with fail
          go_cut [8, 9, 10] (fun x y z wx => BoxR w5 R s op g2 c2 gf r2 x y z wx)
          case first =>
            go_region_held (fun w' => w'.cell? ⟨L, 10, none⟩ = some (.func (.func gf) #[] #[]) ∧ Stays (fun j => j = R) w5 w')
              (first
                | (exact ⟨n1, Stays.drew (Stays.refl (fun j => j = R) w5)⟩)
                | (go_split_ands; with_reducible exact ⟨by assumption, by assumption⟩)
                | (go_split_ands; refine keepS LL.out hst5 ?_; repeat (first | assumption | (with_reducible exact Stays.refl _ _) | (with_reducible refine Stays.alloc ?_ _) | (with_reducible apply Stays.drew) | (with_reducible refine Stays.set ?_ (.inr ?_) _) | (dsimp only; omega) | (simp; omega) | (simp; done))))
              (first
                | (go_at_call 111; go_split_ands; (first | (with_reducible refine (HC2.out _ (be3 w5 _ _ _)).mono ?_) | (with_reducible refine (HC2.out _ (be2 w5 _ _)).mono ?_) | (with_reducible refine (HC2.out _ (be1 w5 _)).mono ?_) | (with_reducible refine (HC2.out _ (be0 w5)).mono ?_)); rintro e wq hrd; rcases rd_cases hrd with ⟨hrn, rfl, hstq⟩ | ⟨b, t, gq, cq, atq, hrs, rfl, hstq, hleq, hdrq, hpq, hxq⟩; (have h0 := hstq; (try (with_reducible replace h0 := upD h0)); (try (with_reducible replace h0 := upA h0)); (try (with_reducible replace h0 := upA h0)); (try (with_reducible replace h0 := upA h0)); exact ⟨rfl, rdNone (HF.out hrn) (hst5.trans h0)⟩); have h0 := hstq; have hx9 := hxq; (try (with_reducible replace hx9 := exD hx9)); (first | (with_reducible replace hx9 := exN3 hx9) | (with_reducible replace hx9 := exN2 hx9) | (with_reducible replace hx9 := exN1 hx9) | (with_reducible replace hx9 := exN0 hx9)); (try (with_reducible replace h0 := upD h0)); (first | (with_reducible have q3 := bx3 h0 hR5; replace h0 := q3.2; replace q3 := q3.1) | skip); (first | (with_reducible have q2 := bx2 h0 hR5; replace h0 := q2.2; replace q2 := q2.1) | skip); (first | (with_reducible have q1 := bx1 h0 hR5; replace h0 := q1.2; replace q1 := q1.1) | skip); have hsq := h0.size; (first | have v1 := q1.frozen 0 | skip); (first | have v2 := q2.frozen 0 | skip); (first | have v3 := q3.frozen 0 | skip); (first | (with_reducible have y1 := Blk.one q1) | skip); (first | (with_reducible have y2 := Blk.one q2) | skip); (first | (with_reducible have y3 := Blk.one q3) | skip); (first | ((with_reducible have l1 := q1.lt); have z1 := Nat.lt_succ_of_lt l1; have r1 := Nat.ne_of_lt l1; have u1 := Nat.ne_of_lt z1; have rr1 := Ne.symm r1; have uu1 := Ne.symm u1) | skip); (first | ((with_reducible have l2 := q2.lt); have z2 := Nat.lt_succ_of_lt l2; have r2 := Nat.ne_of_lt l2; have u2 := Nat.ne_of_lt z2; have rr2 := Ne.symm r2; have uu2 := Ne.symm u2) | skip); (first | ((with_reducible have l3 := q3.lt); have z3 := Nat.lt_succ_of_lt l3; have r3 := Nat.ne_of_lt l3; have u3 := Nat.ne_of_lt z3; have rr3 := Ne.symm r3; have uu3 := Ne.symm u3) | skip)))
            all_goals (go_split_ands; go_wp2_with fail; go_meet)
            all_goals (refine ⟨b, t, _, _, _, gq, cq, atq, hrs, rfl, rfl, rfl, ?_, ?_, ?_, ?_, ?_, ?_, hleq, hdrq, ?_, ?_, by assumption⟩)
            all_goals first
              | (with_reducible assumption)
              | omega
              | (refine exEnd hx9 (by omega) ?_; repeat (first | (with_reducible exact Stays.refl _ _) | (with_reducible refine Stays.alloc ?_ _) | (with_reducible refine Stays.set ?_ (.inl ?_) _) | (with_reducible refine Stays.set ?_ (.inr ?_) _) | (dsimp only; omega)))
              | ((repeat (first | (with_reducible exact hpq) | (with_reducible refine Par.alloc ?_ _) | (with_reducible refine Par.put ?_ ?_ _) | omega)); done)
              | ((repeat (first | (with_reducible assumption) | (with_reducible refine cs_same (u := .nilFunc) ?_) | (with_reducible refine cs_other ?_ ?_) | (with_reducible refine ca_new ?_) | (with_reducible refine ca_old ?_) | (simp only [size_set, size_alloc]; done) | (dsimp only; omega))); done)
          case rest =>
            obtain ⟨b, t, X, Y, Z, g3, c3, at3, hrs, rfl, rfl, rfl, hX, hY, hZ, cX, cY, cZ, hle3, hdr3, hp3, hxb, hstx⟩ := hcut
            have hsub2 : sub ((txt s).drop (at2 + 1)) = some (b, t) := HR2.out.trans hrs
            have hat3 : at2 + 1 < at3 := by
              have h1 := heat _ _ _ hsub2
              have h2 : t.length = s.size - at3 := by rw [← hdr3]; simp
              have h3 : ((txt s).drop (at2 + 1)).length = s.size - (at2 + 1) := by simp
              omega
            have htg := ToGo.next heat (c := d) (t := (txt s).drop (at2 + 1)) (a := a) (cnt := cnt) (res := res) (by rw [HD.out, ← HDR.out]; exact HTO.out) HGO.out hin hsub2
            have HTG := Lib.hid htg
            have bSx : wc.cell? ⟨S, 0, none⟩ = some (.int .u8 d.toNat) := ((Blk.stays bS5 hstx (fun e => by have := hst2.size; omega)).cell 0).trans rfl
            have hxa := hx5.stays hstx (fun k hk e => by have := hk.1; omega)
            have hxn := bin_cells hxa hxb hop cX cY cZ bSx
            have hmk := hmakef
            have hszx := hstx.size
            have hsz5 := hst5.size
            have hSge2 := hst2.size
            have HSI := Lib.hid hsub2
            clear htg HTO hsub2 HDR
            go_wp2_with fail
            go_roundg (s.size - at3)
            case measure => omega
            case rel =>
              refine ⟨cnt + 1, at3, 139, _, _, by omega, rfl, rfl, by omega, hp3, hxn.wider ?_ ?_, hst5.trans hstx, by rw [hdr3]; exact HTG.out⟩
              · rintro k (h1 | h1 | rfl | rfl | rfl | rfl)
                · exact New.mono (Nat.le_refl _) hszx k h1
                · exact New.mono hsz5 (Nat.le_refl _) k h1
                · exact ⟨by omega, World.block_lt_of_cell? _ _ cX⟩
                · exact ⟨by omega, World.block_lt_of_cell? _ _ cY⟩
                · exact ⟨by omega, World.block_lt_of_cell? _ _ cZ⟩
                · exact ⟨by omega, World.block_lt_of_cell? _ _ bSx⟩
              · intro k hk; exact hk.2
      · have HRES := Lib.hid (ToGo.stop HTO.out hgo)
        have hci : ((cnt : Int) == 0) = false := by
          have : ¬ cnt = 0 := fun h => hgo (.inl h)
          simp; omega
        have hsv : sv = false := by
          cases sv with
          | false => rfl
          | true => exact absurd (.inr rfl) hgo
        subst hsv
        clear hgo HTO
        go_wp2_with fail
        go_ret
        rw [HRES.out]
        exact ⟨hst2, g2, c2, at2, rfl, hle2, rfl, hp2, hx2⟩
end Go.Proofs.YtddnmocoaahlfaaGreatDoor
