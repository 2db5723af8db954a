/-
  The reference's Text. Conditions: the numbers are ints; the row of numbers lies in memory.
-/
import Derived.Test.YtddnmocoaahlfaaGreatDoorRefW
import Derived.Test.YtddnmocoaahlfaaGreatDoorLawA
set_option linter.unusedVariables false
set_option linter.unusedSimpArgs false
namespace Go.Proofs.YtddnmocoaahlfaaGreatDoor
open Go.RowKit Go.Shelf

theorem line_snoc (w : List UInt8) (l : List Int) (n : Int) : lineT w (l ++ [n]) = lineT w l ++ 32 :: Lib.itoa n := by unfold lineT; simp
theorem short_num {n : Int} (hn : I64 n) {s : ByteArray} (h : txt s = Lib.itoa n) : s.size ≤ 40 := by
  have : (txt s).length = s.size := by simp
  rw [← this, h]; exact itoa_text.short n hn.1 hn.2
set_option maxRecDepth 100000 in
set_option maxHeartbeats 8000000 in
theorem textR_any {w : World} {k a b c d e : Int} {kv : Value} {kp : List Int} (hi : ∀ n ∈ [a, b, c, d, e] ++ kp, I64 n) (hkv : NRow w kv kp) (hm : kp.length ≤ maxLen) : Calls Tryz.prog 28 #[actV k a b c d e kv] w (RetTE w (textT k [a, b, c, d, e] kp)) := by
  obtain ⟨p1, cc, rfl⟩ := hkv.form
  have hm' : kp.length ≤ 9223372036854775807 := by unfold maxLen at hm; omega
  obtain ⟨w1, hw1⟩ : ∃ w1, w1 = w.alloc (.cells #[.int .i64 k, .int .i64 a, .int .i64 b, .int .i64 c, .int .i64 d, .int .i64 e, .slice p1 kp.length cc] 24) := ⟨_, rfl⟩
  have l1 : Below w.heap.size w w1 := by rw [hw1]; exact (Below.refl _ _).alloc (Nat.le_refl _) _
  have bR : Blk w1 w.heap.size #[.int .i64 k, .int .i64 a, .int .i64 b, .int .i64 c, .int .i64 d, .int .i64 e, .slice p1 kp.length cc] 24 := by rw [hw1]; exact Blk.new w _ _
  have hval := valid_any (k := k) (a := a) (b := b) (c := c) (d := d) (e := e) (hkv.below l1) hm
  obtain ⟨res, hres⟩ : ∃ res, res = textT k [a, b, c, d, e] kp := ⟨_, rfl⟩
  rw [← hres] at hval ⊢
  have HW := Lib.hid hw1
  by_cases h0 : res.2 = 0
  rotate_left
  · rw [decide_eq_false h0] at hval
    have hb : res = ([], 2) := by rw [hres]; exact text_bad (by rw [← hres]; exact h0)
    have HB := Lib.hid hb
    have HV := Lib.hid hval
    clear hb hval hw1 hkv hi h0 hres bR
    go_enter Tryz.func28, Tryz.ntmps28
    go_wp2_with fail
    rw [← HW.out]
    refine HV.out.mono ?_
    rintro ex w2 ⟨b2, rfl⟩
    go_wp2_with fail
    go_ret2
    unfold RetTE
    rw [HB.out]
    exact ⟨l1.trans (b2.mono l1.size), _, rfl, rfl⟩
  rw [decide_eq_true h0] at hval
  obtain ⟨f, hf⟩ : ∃ f : List Int, f = [a, b, c, d, e] := ⟨_, rfl⟩
  have hfl : f.length = 5 := by rw [hf]; rfl
  have hcf : ∀ i (h : i < f.length), (#[.int .i64 a, .int .i64 b, .int .i64 c, .int .i64 d, .int .i64 e] : Array Value)[i]? = some (.int .i64 f[i]) := fun i h => by
    have h5 : i < 5 := by omega
    subst hf
    match i, h5 with
    | 0, _ => rfl
    | 1, _ => rfl
    | 2, _ => rfl
    | 3, _ => rfl
    | 4, _ => rfl
  rw [← hf] at hi hres
  have hgd := text_good (k := k) (keep := kp) hfl (by rw [← hres]; exact h0)
  rw [← hres] at hgd
  obtain ⟨hg1, hg2⟩ := hgd
  have HV := Lib.hid hval
  have hn5 := (refWord_le k).1
  have hw64 := (refWord_le k).2
  have HWD0 := Lib.hid (fun W => word_any k W)
  generalize hwd : (refWord k).1 = wd at *
  generalize hnn : (refWord k).2 = n at *
  have HG := Lib.hid hg1
  have HCF := Lib.hid hcf
  have HFL := Lib.hid hfl
  have HI := Lib.hid hi
  have HK := Lib.hid hkv
  clear hkv hw1 hcf hwd hnn hf hg1 hres hval h0 hi
  go_enter Tryz.func28, Tryz.ntmps28
  go_wp2_with fail
  rw [← HW.out]
  refine HV.out.mono ?_
  rintro ex w2 ⟨b2, rfl⟩
  have l2 := l1.trans (b2.mono l1.size)
  have HB2 := Lib.hid (bR.below b2)
  have s0 : w2.cell? ⟨w.heap.size, 0, none⟩ = some (.int .i64 k) := (HB2.out.cell 0).trans rfl
  have HWD := Lib.hid (HWD0.out w2)
  clear bR HV HW HWD0
  go_wp2_with fail
  refine HWD.out.mono ?_
  rintro ex w3 ⟨b3, sw, rfl, hsw⟩
  have l3 := l2.trans (b3.mono l2.size)
  have HB3 := Lib.hid (HB2.out.below b3)
  clear s0
  have s0 : w3.cell? ⟨w.heap.size, 0, none⟩ = some (.int .i64 k) := (HB3.out.cell 0).trans rfl
  have s1 : w3.cell? ⟨w.heap.size, 1, none⟩ = some (.int .i64 a) := (HB3.out.cell 1).trans rfl
  have s2 : w3.cell? ⟨w.heap.size, 2, none⟩ = some (.int .i64 b) := (HB3.out.cell 2).trans rfl
  have s3 : w3.cell? ⟨w.heap.size, 3, none⟩ = some (.int .i64 c) := (HB3.out.cell 3).trans rfl
  have s4 : w3.cell? ⟨w.heap.size, 4, none⟩ = some (.int .i64 d) := (HB3.out.cell 4).trans rfl
  have s5 : w3.cell? ⟨w.heap.size, 5, none⟩ = some (.int .i64 e) := (HB3.out.cell 5).trans rfl
  have s6 : w3.cell? ⟨w.heap.size, 6, none⟩ = some (.slice p1 kp.length cc) := (HB3.out.cell 6).trans rfl
  have HFD := Lib.hid (fields_any (w := w3) (k := k) (a := a) (b := b) (c := c) (d := d) (e := e) ⟨p1, kp.length, cc, rfl⟩)
  have hswl : sw.size ≤ 64 := by
    have : (txt sw).length = sw.size := by simp
    rw [← this, hsw]; exact hw64
  have HS := Lib.hid hsw
  clear hsw HWD HB2
  go_wp2_with fail
  refine HFD.out.mono ?_
  rintro ex w4 ⟨rfl, b4⟩
  clear s0 s1 s2 s3 s4 s5 s6
  have l4 := l3.trans (b4.mono l3.size)
  obtain ⟨w5, hw5⟩ : ∃ w5, w5 = w4.alloc (.cells #[.int .i64 a, .int .i64 b, .int .i64 c, .int .i64 d, .int .i64 e] 90) := ⟨_, rfl⟩
  have b5 : Blk w5 w4.heap.size #[.int .i64 a, .int .i64 b, .int .i64 c, .int .i64 d, .int .i64 e] 90 := by rw [hw5]; exact Blk.new w4 _ _
  have l45 : Below w4.heap.size w4 w5 := by rw [hw5]; exact (Below.refl _ _).alloc (Nat.le_refl _) _
  have c6 : w5.cell? ⟨w.heap.size, 6, none⟩ = some (.slice p1 kp.length cc) := ((Blk.below (Blk.below HB3.out b4) l45).cell 6).trans rfl
  have l5 := l4.trans (l45.mono l4.size)
  have hc5 : ∀ i (h : i < f.length), w5.cell? ⟨w4.heap.size, i, none⟩ = some (.int .i64 f[i]) := fun i h => by rw [b5.cell i]; exact HCF.out i h
  have HC5 := Lib.hid hc5
  have HK5 := Lib.hid (HK.out.below l5)
  have H5 := Lib.hid hw5
  have L1 : (⟨#[32]⟩ : ByteArray).size = 1 := rfl
  clear hc5 b5 hw5 HFD HCF
  go_wp2_with fail
  rw [← H5.out]
  go_loop [7, 4] (fun t v => ∃ (i : Nat) (sp : ByteArray), t = .int .i64 i ∧ i ≤ n ∧ v = .string sp ∧ txt sp = lineT wd (f.take i) ∧ sp.size ≤ 64 + 41 * i) (fun t v => n - (intOf t).toNat)
  case atStart => exact ⟨0, sw, rfl, Nat.zero_le _, rfl, by rw [HS.out, List.take_zero]; simp [lineT], by omega⟩
  case round =>
    obtain ⟨i, sp, rfl, hin, rfl, hsp, hsz⟩ := hrel
    have HSP := Lib.hid hsp
    clear hsp
    by_cases hlt : i < n
    · have dl : decide ((i : Int) < (n : Int)) = true := decide_eq_true (by omega)
      have hqi : i < f.length := by have := HFL.out; omega
      have hci := HC5.out i hqi
      have hxi : I64 f[i] := HI.out _ (by simp)
      have hst : f.take (i + 1) = f.take i ++ [f[i]] := List.take_succ_eq_append_getElem hqi
      obtain ⟨x, hx⟩ : ∃ x, x = f[i] := ⟨_, rfl⟩
      rw [← hx] at hci hxi hst
      have HST := Lib.hid hst
      have HN := Lib.hid (number_any hxi w5)
      have HXI := Lib.hid hxi
      have hc1 := cat_ok (a := sp) (b := ⟨#[32]⟩) (by omega)
      clear hx hst hxi
      go_wp2_with fail
      refine HN.out.mono ?_
      rintro ex w6 ⟨s1, rfl, t1, rfl⟩
      have y1 := short_num HXI.out t1
      have hc2 := cat_ok (a := sp ++ ⟨#[32]⟩) (b := s1) (by simp only [ByteArray.size_append]; omega)
      have T1 := Lib.hid t1
      clear t1
      go_wp2_with fail
      go_round
      case rel => exact ⟨i + 1, _, by go_num, by omega, rfl, by rw [HST.out, line_snoc, txt_append, txt_append, HSP.out, T1.out]; simp; rfl, by simp only [ByteArray.size_append]; omega⟩
      case measure => simp [intOf]; omega
    · have hin2 : i = n := by omega
      have dl : decide ((i : Int) < (n : Int)) = false := decide_eq_false (by omega)
      have hsp2 : txt sp = lineT wd (f.take n ++ kp.take 0) := by rw [HSP.out, hin2, List.take_zero, List.append_nil]
      have HSP2 := Lib.hid hsp2
      clear HSP hsp2 hin2
      go_wp2_with fail
      go_loop [8, 4] (fun t v => ∃ (j : Nat) (sp : ByteArray), t = .int .i64 j ∧ j ≤ kp.length ∧ v = .string sp ∧ txt sp = lineT wd (f.take n ++ kp.take j) ∧ sp.size ≤ 300 + 41 * j) (fun t v => kp.length - (intOf t).toNat)
      case atStart => exact ⟨0, sp, rfl, Nat.zero_le _, rfl, HSP2.out, by omega⟩
      case round =>
        obtain ⟨j, sp, rfl, hjn, rfl, hsp, hsz⟩ := hrel
        have HSP := Lib.hid hsp
        clear hsp
        by_cases hlt : j < kp.length
        · obtain ⟨L, o, rfl, ck⟩ := nrow_get HK5.out hlt
          have hcap : kp.length ≤ cc := (nrow_cap HK5.out).resolve_left (fun e => by rw [e] at hlt; simp at hlt)
          have hxi : I64 kp[j] := HI.out _ (by simp)
          have hst : kp.take (j + 1) = kp.take j ++ [kp[j]] := List.take_succ_eq_append_getElem hlt
          obtain ⟨x, hx⟩ : ∃ x, x = kp[j] := ⟨_, rfl⟩
          rw [← hx] at ck hxi hst
          have HST := Lib.hid hst
          have HN := Lib.hid (number_any hxi w5)
          have HXI := Lib.hid hxi
          have hc1 := cat_ok (a := sp) (b := ⟨#[32]⟩) (by omega)
          clear hx hst hxi
          go_wp2_with fail
          refine HN.out.mono ?_
          rintro ex w6 ⟨s1, rfl, t1, rfl⟩
          have y1 := short_num HXI.out t1
          have hc2 := cat_ok (a := sp ++ ⟨#[32]⟩) (b := s1) (by simp only [ByteArray.size_append]; omega)
          have T1 := Lib.hid t1
          clear t1
          go_wp2_with fail
          go_round
          case rel => exact ⟨j + 1, _, by go_num, by omega, rfl, by rw [HST.out, ← List.append_assoc, line_snoc, txt_append, txt_append, HSP.out, T1.out]; simp; rfl, by simp only [ByteArray.size_append]; omega⟩
          case measure => simp [intOf]; omega
        · have hjk : j = kp.length := by omega
          have hfin : txt sp = lineT wd (f.take n ++ kp) := by rw [HSP.out, List.take_of_length_le (show kp.length ≤ j by omega)]
          have HF := Lib.hid hfin
          clear hfin HSP
          go_wp2_with fail
          go_ret2
          unfold RetTE
          rw [HG.out]
          exact ⟨l5, sp, rfl, HF.out⟩
end Go.Proofs.YtddnmocoaahlfaaGreatDoor
