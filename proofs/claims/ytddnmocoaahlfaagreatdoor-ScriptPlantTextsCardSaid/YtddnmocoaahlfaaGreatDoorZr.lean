/-
  Steps for arrays that are written out: built, laid into a new block, in one step each. No condition.
  The reference's Word, Valid and Text. Conditions: the numbers are ints; the row of numbers lies in memory.
  The reference's reading of number texts in plain Lean: what a number text looks like. No condition; no program in sight.
  The reference's Read, Parts, numbers and Kind. Conditions: texts of at most 65536 bytes.
  The reference's numbers and Kind. Conditions: the row of strings lies in memory.
  A whole struct stored into a block of the call's own. No condition.
  The reference's Of. Condition: the row of numbers lies in memory.
  Slices without their first element, whatever their capacity, in one step. No condition.
  The reference's Parse. Condition: lines of at most 65536 bytes.
  undec and undecAll. Conditions: the package-level variables hold what the program lays; texts of at most 65536 bytes.
  The written-out arrays of the reference's Named and plantLine, in one step each. No condition.
  The reference's Named, and both checks of tokens. No condition.
  EventText. Conditions: the package-level variables hold what the program lays; texts of at most 65536 bytes.
  The reference's Text. Conditions: the numbers are ints; the row of numbers lies in memory.
  The reference's EventText. Conditions: the numbers are ints; texts of at most 65536 bytes.
-/
import Derived.Test.YtddnmocoaahlfaaGreatDoorBase
import Derived.Deep.WholeRow
import Derived.Test.YtddnmocoaahlfaaGreatDoorLine2
import Derived.Test.YtddnmocoaahlfaaGreatDoorY23
import Derived.Test.YtddnmocoaahlfaaGreatDoorY8
import Derived.Deep.DeepCutAuto
import Derived.Test.YtddnmocoaahlfaaGreatDoorY14
import Derived.Test.YtddnmocoaahlfaaGreatDoorMach
set_option linter.unusedVariables false
set_option linter.unusedSimpArgs false

namespace Go.Proofs.YtddnmocoaahlfaaGreatDoor
open Go.RowKit
theorem wpList_val {P : Program} {w w' : World} {ops : Array Oper} {rest : List Oper} {o : Oper} {a : Act} {Q : Exit → Act → World → Prop} (hgd : o.guard = none) (S : Sem Value) (hex : execOp a.eval o = (do pure (.value (← S))))
    (v : Value) (hrun : S.run P w = .ok v w') (h : wpList P ops Q rest (a.put o.dst v) w') : wpList P ops Q (o :: rest) a w := by
  refine wpList_plain hgd fun K hK => ?_
  unfold Oper.wp
  simp only [hex, Sem.run_bind, Sem.run_pure, hrun, Result.andThen_ok]
  exact hK _ _ h
theorem wpList_unit {P : Program} {w w' : World} {ops : Array Oper} {rest : List Oper} {o : Oper} {a : Act} {Q : Exit → Act → World → Prop} (hgd : o.guard = none) (hd : o.dst = none) (S : Sem Unit) (hex : execOp a.eval o = (do S; pure .skip))
    (hrun : S.run P w = .ok () w') (h : wpList P ops Q rest a w') : wpList P ops Q (o :: rest) a w := by
  refine wpList_plain hgd fun K hK => ?_
  unfold Oper.wp
  simp only [hex, Sem.run_bind, Sem.run_pure, hrun, Result.andThen_ok]
  refine hK _ _ ?_
  rw [hd]
  exact h
end Go.Proofs.YtddnmocoaahlfaaGreatDoor
namespace Go.Proofs.YtddnmocoaahlfaaGreatDoor
open Go.RowKit Go.Shelf
end Go.Proofs.YtddnmocoaahlfaaGreatDoor
namespace Go.Proofs.YtddnmocoaahlfaaGreatDoor
open Go.Lib
theorem valFrom_snoc (acc : Nat) (l : List UInt8) (c : UInt8) : valFrom acc (l ++ [c]) = 10 * valFrom acc l + (c.toNat - 48) := by unfold valFrom; simp
/-- What stands behind the sign of a number text. -/
def unsig (s : List UInt8) : List UInt8 := if s.headD 0 = 45 then s.tail else s
theorem undec_shape {s : List UInt8} {v : Int} (h : undecL s = some v) :
    (∀ c ∈ unsig s, isDig c = true) ∧ valFrom 0 (unsig s) = v.natAbs ∧ (s.headD 0 = 45 ↔ v < 0) ∧ s ≠ [] ∧ s.length ≤ 20 ∧ I64 v := by
  obtain ⟨h1, rfl⟩ := undec_iff.1 h
  have hI := h1
  unfold I64 at h1
  unfold itoa unsig
  by_cases hn : v < 0
  · rw [if_pos hn]
    obtain ⟨d1, d2, c, t, d3, d4⟩ := decDigits_facts v.natAbs
    simp only [List.headD_cons, if_true, List.tail_cons]
    have hl := decDigits_len 18 v.natAbs (by omega)
    exact ⟨d1, d2, by simp [hn], by simp, by simp; omega, hI⟩
  · rw [if_neg hn]
    obtain ⟨d1, d2, c, t, d3, d4⟩ := decDigits_facts v.toNat
    have hl := decDigits_len 18 v.toNat (by omega)
    have hc : (decDigits v.toNat).headD 0 ≠ 45 := by
      rw [d3]
      simp only [List.headD_cons]
      intro e
      have := d1 c (by rw [d3]; simp)
      rw [e] at this
      exact absurd this (by decide)
    rw [if_neg hc]
    exact ⟨d1, by rw [show v.natAbs = v.toNat by omega]; exact d2, by simp only [hn, iff_false]; exact hc, by rw [d3]; simp, by omega, hI⟩
end Go.Proofs.YtddnmocoaahlfaaGreatDoor
namespace Go.Proofs.YtddnmocoaahlfaaGreatDoor
open Go.RowKit Go.Shelf
theorem txt_inj' {a b : ByteArray} (h : txt a = txt b) : a = b := by
  cases a; cases b
  simp only [txt] at h
  congr 1
  exact Array.toList_inj.1 h
/-- What a text says of itself as a number. -/
structure RdOk (l : List UInt8) (x : Int) (b : Bool) : Prop where
  int : I64 x
  some : b = (undecL l).isSome
  val : ∀ v, undecL l = .some v → x = v
theorem rd_none {l : List UInt8} (h : undecL l = none) : RdOk l 0 false := ⟨⟨by omega, by omega⟩, by rw [h]; rfl, fun v hv => by rw [h] at hv; cases hv⟩
theorem undec_none_of {l : List UInt8} (h : ∀ v, undecL l = some v → False) : undecL l = none := by
  cases hu : undecL l with
  | none => rfl
  | some v => exact (h v hu).elim
theorem rd_fin {l : List UInt8} {x : Int} (hx : I64 x) (h : ∀ v, undecL l = some v → x = v) : RdOk l x (decide (Lib.itoa x = l)) := by
  refine ⟨hx, ?_, h⟩
  by_cases he : Lib.itoa x = l
  · rw [undec_iff.2 ⟨hx, he⟩]; simp [he]
  · have : undecL l = none := undec_none_of fun v hv => he (by rw [h v hv]; exact (undec_iff.1 hv).2)
    rw [this]; simp [he]
theorem wrap_i64 (n : Int) : I64 (wrap64 n) := by unfold I64 wrap64; omega
theorem wrap_in {n : Int} (h : I64 n) : wrap64 n = n := by unfold I64 at h; unfold wrap64; omega
/-- What the loop of Read keeps: the digits behind the sign up to a place. -/
structure RdAt (l : List UInt8) (fr i : Nat) (n : Int) : Prop where
  int : I64 n
  dig : ∀ c ∈ (l.take i).drop fr, isDig c = true
  val : valFrom 0 ((l.take i).drop fr) ≤ 9223372036854775808 → n = -(valFrom 0 ((l.take i).drop fr) : Nat)
theorem take_drop_snoc {l : List UInt8} {fr i : Nat} (hf : fr ≤ i) (hi : i < l.length) : (l.take (i + 1)).drop fr = (l.take i).drop fr ++ [l[i]] := by
  rw [List.take_succ_eq_append_getElem hi, List.drop_append_of_le_length (by rw [List.length_take]; omega)]
theorem RdAt.next {l : List UInt8} {fr i : Nat} {n : Int} (h : RdAt l fr i n) (hf : fr ≤ i) (hi : i < l.length) {c : UInt8} (hc : c = l[i]) (hd : isDig c = true) : RdAt l fr (i + 1) (wrap64 (wrap64 (10 * n) - ((c.toNat : Int) - 48))) := by
  have hr := dig_range hd
  refine ⟨wrap_i64 _, ?_, ?_⟩
  · rw [take_drop_snoc hf hi]
    intro d hm
    rcases List.mem_append.1 hm with hm | hm
    · exact h.dig d hm
    · rw [List.mem_singleton.1 hm, ← hc]; exact hd
  · rw [take_drop_snoc hf hi, valFrom_snoc, ← hc]
    intro hle
    have hn := h.val (by omega)
    rw [hn, wrap_in (n := 10 * _) ⟨by omega, by omega⟩, wrap_in ⟨by omega, by omega⟩]
    omega
theorem unsig_drop (l : List UInt8) : unsig l = l.drop (if l.headD 0 = 45 then 1 else 0) := by
  unfold unsig
  split
  · cases l <;> rfl
  · rfl
theorem byte_get {s : ByteArray} {i : Nat} (h : i < s.size) : (txt s)[i]'(by simpa using h) = s[i] := rfl
/-- What Read ends in. -/
def RetRd (w : World) (l : List UInt8) (e : Ending) (w' : World) : Prop := w' = w ∧ ∃ x b, e = .returned (.tuple #[.int .i64 x, .bool b]) ∧ RdOk l x b
set_option maxRecDepth 100000 in
set_option maxHeartbeats 8000000 in
theorem read_any (s : ByteArray) (w : World) : Calls Tryz.prog 117 #[.string s] w (RetRd w (txt s)) := by
  have hsz : (txt s).length = s.size := by simp
  by_cases h0 : s.size = 0
  · have d0 : ((s.size : Int) == 0) = true := by simp [h0]
    have hn : undecL (txt s) = none := undec_none_of fun v hv => (undec_shape hv).2.2.2.1 (List.length_eq_zero_iff.1 (by omega))
    have HN := Lib.hid (rd_none hn)
    clear hn hsz h0
    go_enter Tryz.func117, Tryz.ntmps117
    go_wp2_with fail
    go_ret2
    exact ⟨rfl, 0, false, rfl, HN.out⟩
  have d0 : ((s.size : Int) == 0) = false := by simp; intro h; exact h0 (by rw [h]; rfl)
  by_cases h20 : 20 < s.size
  · have d1 : decide ((20 : Int) < (s.size : Int)) = true := decide_eq_true (by omega)
    have hn : undecL (txt s) = none := undec_none_of fun v hv => by have := (undec_shape hv).2.2.2.2.1; omega
    have HN := Lib.hid (rd_none hn)
    clear hn hsz h0
    go_enter Tryz.func117, Tryz.ntmps117
    go_wp2_with fail
    go_ret2
    exact ⟨rfl, 0, false, rfl, HN.out⟩
  have d1 : decide ((20 : Int) < (s.size : Int)) = false := decide_eq_false (by omega)
  have hpos : 0 < s.size := by omega
  have hh : (txt s).headD 0 = s[0] := by
    have := drop_byte (s := s) (i := 0) hpos
    rw [byteAt_lt hpos, List.drop_zero] at this
    rw [this]; rfl
  obtain ⟨fr, hfr⟩ : ∃ fr : Nat, fr = if s[0] = 45 then 1 else 0 := ⟨_, rfl⟩
  have hun : unsig (txt s) = (txt s).drop fr := by rw [unsig_drop, hh, ← hfr]
  have HUN := Lib.hid hun
  have HH := Lib.hid hh
  have HSZ := Lib.hid hsz
  clear hun hh hsz h0
  by_cases hneg : s[0] = 45
  · have z45 : (((s[0]).toNat : Int) == 45) = true := by rw [hneg]; rfl
    rw [if_pos hneg] at hfr
    subst hfr
    have HNG := Lib.hid hneg
    clear hneg
    go_enter Tryz.func117, Tryz.ntmps117
    go_wp2_with fail
    go_loop [6, 5] (fun t v => ∃ (i : Nat) (n : Int), t = .int .i64 i ∧ 1 ≤ i ∧ i ≤ s.size ∧ v = .int .i64 n ∧ RdAt (txt s) 1 i n) (fun t v => s.size - (intOf t).toNat)
    case atStart =>
      refine ⟨1, 0, rfl, Nat.le_refl _, hpos, rfl, ⟨by omega, by omega⟩, ?_, ?_⟩
      · rw [List.drop_take]; simp
      · rw [List.drop_take]; intro _; rfl
    case round =>
      obtain ⟨i, n, rfl, hi1, hi, rfl, hrd⟩ := hrel
      have HR := Lib.hid hrd
      have hn1 := hrd.int.1
      have hn2 := hrd.int.2
      clear hrd
      by_cases hlt : i < s.size
      · obtain ⟨c, hc⟩ : ∃ c, c = s[i] := ⟨_, rfl⟩
        have hcb : (txt s)[i]'(by simpa using hlt) = c := by rw [byte_get hlt, hc]
        have HCB := Lib.hid hcb
        have hmem : c ∈ unsig (txt s) := by
          rw [HUN.out, ← hcb]
          rw [List.mem_iff_getElem]
          exact ⟨i - 1, by simp; omega, by rw [List.getElem_drop]; congr 1; omega⟩
        have HM := Lib.hid hmem
        clear hcb hmem
        have hcs : s[i] = c := hc.symm
        by_cases hd : isDig c = true
        · have hr := dig_range hd
          have e1 : decide (((s[i]).toNat : Int) < 48) = false := by rw [hcs]; exact decide_eq_false (by omega)
          have e2 : decide ((57 : Int) < ((s[i]).toNat : Int)) = false := by rw [hcs]; exact decide_eq_false (by omega)
          have HNX := Lib.hid (HR.out.next hi1 (by rw [HSZ.out]; exact hlt) HCB.out.symm hd)
          rw [hc] at hr HNX
          clear hd hc hcs HM HCB
          go_wp2_with fail
          go_round
          case rel => exact ⟨i + 1, _, by go_num, by omega, by omega, rfl, HNX.out⟩
          case measure => simp [intOf]; omega
        · have hn : undecL (txt s) = none := undec_none_of fun v hv => hd ((undec_shape hv).1 c HM.out)
          have HN := Lib.hid (rd_none hn)
          have hr : c.toNat < 48 ∨ 57 < c.toNat := by
            rcases Nat.lt_or_ge c.toNat 48 with h | h
            · exact .inl h
            · rcases Nat.lt_or_ge 57 c.toNat with h' | h'
              · exact .inr h'
              · exact absurd (by unfold isDig; simp only [Bool.and_eq_true, decide_eq_true_eq, UInt8.le_iff_toNat_le]; exact ⟨h, h'⟩) hd
          clear hn hd HM HCB
          rw [hc] at hr
          rcases hr with hr | hr
          · have e1 : decide (((s[i]).toNat : Int) < 48) = true := decide_eq_true (by omega)
            clear hc hcs
            go_wp2_with fail
            go_ret2
            exact ⟨rfl, 0, false, rfl, HN.out⟩
          · have e1 : decide (((s[i]).toNat : Int) < 48) = false := decide_eq_false (by omega)
            have e2 : decide ((57 : Int) < ((s[i]).toNat : Int)) = true := decide_eq_true (by omega)
            clear hc hcs
            go_wp2_with fail
            go_ret2
            exact ⟨rfl, 0, false, rfl, HN.out⟩
      · have his : i = s.size := by omega
        have hfin : ∀ v, undecL (txt s) = some v → n = v := by
          intro v hv
          obtain ⟨g1, g2, g3, g4, g5, g6⟩ := undec_shape hv
          have hneg : v < 0 := g3.1 (by rw [HH.out]; exact HNG.out)
          have hv2 := HR.out.val
          rw [his, ← HSZ.out, List.take_length, ← HUN.out, g2] at hv2
          unfold I64 at g6
          have := hv2 (by omega)
          omega
        have HF := Lib.hid (rd_fin HR.out.int hfin)
        have HN := Lib.hid (number_any HR.out.int w)
        clear hfin
        go_wp2_with fail
        refine HN.out.mono ?_
        rintro e w1 ⟨s1, rfl, t1, rfl⟩
        have T1 := Lib.hid t1
        clear t1
        go_wp2_with fail
        go_ret2
        refine ⟨rfl, n, s1.toList == s.toList, rfl, ?_⟩
        have : (s1.toList == s.toList) = decide (Lib.itoa n = txt s) := by
          rw [ByteArray.toList_eq s, lit_str', T1.out]
        rw [this]
        exact HF.out
  · have z45 : (((s[0]).toNat : Int) == 45) = false := by
      have : (s[0]).toNat ≠ 45 := fun e => hneg (UInt8.toNat_inj.1 e)
      simp; omega
    rw [if_neg hneg] at hfr
    subst hfr
    have HNG := Lib.hid hneg
    clear hneg
    go_enter Tryz.func117, Tryz.ntmps117
    go_wp2_with fail
    go_loop [6, 5] (fun t v => ∃ (i : Nat) (n : Int), t = .int .i64 i ∧ i ≤ s.size ∧ v = .int .i64 n ∧ RdAt (txt s) 0 i n) (fun t v => s.size - (intOf t).toNat)
    case atStart => exact ⟨0, 0, rfl, Nat.zero_le _, rfl, ⟨by omega, by omega⟩, by simp, fun _ => rfl⟩
    case round =>
      obtain ⟨i, n, rfl, hi, rfl, hrd⟩ := hrel
      have HR := Lib.hid hrd
      have hn1 := hrd.int.1
      have hn2 := hrd.int.2
      clear hrd
      by_cases hlt : i < s.size
      · obtain ⟨c, hc⟩ : ∃ c, c = s[i] := ⟨_, rfl⟩
        have hcb : (txt s)[i]'(by simpa using hlt) = c := by rw [byte_get hlt, hc]
        have HCB := Lib.hid hcb
        have hmem : c ∈ unsig (txt s) := by
          rw [HUN.out, List.drop_zero, ← hcb]
          exact List.getElem_mem _
        have HM := Lib.hid hmem
        clear hcb hmem
        have hcs : s[i] = c := hc.symm
        by_cases hd : isDig c = true
        · have hr := dig_range hd
          have e1 : decide (((s[i]).toNat : Int) < 48) = false := by rw [hcs]; exact decide_eq_false (by omega)
          have e2 : decide ((57 : Int) < ((s[i]).toNat : Int)) = false := by rw [hcs]; exact decide_eq_false (by omega)
          have HNX := Lib.hid (HR.out.next (Nat.zero_le _) (by rw [HSZ.out]; exact hlt) HCB.out.symm hd)
          rw [hc] at hr HNX
          clear hd hc hcs HM HCB
          go_wp2_with fail
          go_round
          case rel => exact ⟨i + 1, _, by go_num, by omega, rfl, HNX.out⟩
          case measure => simp [intOf]; omega
        · have hn : undecL (txt s) = none := undec_none_of fun v hv => hd ((undec_shape hv).1 c HM.out)
          have HN := Lib.hid (rd_none hn)
          have hr : c.toNat < 48 ∨ 57 < c.toNat := by
            rcases Nat.lt_or_ge c.toNat 48 with h | h
            · exact .inl h
            · rcases Nat.lt_or_ge 57 c.toNat with h' | h'
              · exact .inr h'
              · exact absurd (by unfold isDig; simp only [Bool.and_eq_true, decide_eq_true_eq, UInt8.le_iff_toNat_le]; exact ⟨h, h'⟩) hd
          clear hn hd HM HCB
          rw [hc] at hr
          rcases hr with hr | hr
          · have e1 : decide (((s[i]).toNat : Int) < 48) = true := decide_eq_true (by omega)
            clear hc hcs
            go_wp2_with fail
            go_ret2
            exact ⟨rfl, 0, false, rfl, HN.out⟩
          · have e1 : decide (((s[i]).toNat : Int) < 48) = false := decide_eq_false (by omega)
            have e2 : decide ((57 : Int) < ((s[i]).toNat : Int)) = true := decide_eq_true (by omega)
            clear hc hcs
            go_wp2_with fail
            go_ret2
            exact ⟨rfl, 0, false, rfl, HN.out⟩
      · have his : i = s.size := by omega
        obtain ⟨m, hm⟩ : ∃ m, m = wrap64 (-n) := ⟨_, rfl⟩
        have hmI : I64 m := by rw [hm]; exact wrap_i64 _
        have hfin : ∀ v, undecL (txt s) = some v → m = v := by
          intro v hv
          obtain ⟨g1, g2, g3, g4, g5, g6⟩ := undec_shape hv
          have hneg : ¬ v < 0 := fun h => HNG.out (by rw [← HH.out]; exact g3.2 h)
          have hv2 := HR.out.val
          rw [his, ← HSZ.out, List.take_length, ← HUN.out, g2] at hv2
          unfold I64 at g6
          have := hv2 (by omega)
          rw [hm, this, wrap_in ⟨by omega, by omega⟩]
          omega
        have HF := Lib.hid (rd_fin hmI hfin)
        have hnum := number_any hmI w
        rw [hm] at hnum
        have HN := Lib.hid hnum
        have HMM := Lib.hid hm
        clear hfin hm hnum
        go_wp2_with fail
        refine HN.out.mono ?_
        rintro e w1 ⟨s1, rfl, t1, rfl⟩
        rw [← HMM.out] at t1
        have T1 := Lib.hid t1
        clear t1
        go_wp2_with fail
        go_ret2
        rw [← HMM.out]
        refine ⟨rfl, m, s1.toList == s.toList, rfl, ?_⟩
        have : (s1.toList == s.toList) = decide (Lib.itoa m = txt s) := by
          rw [ByteArray.toList_eq s, lit_str', T1.out]
        rw [this]
        exact HF.out
theorem piece_cut {b : UInt8} {l : List UInt8} {fr i : Nat} (hf : fr ≤ i) (hi : i < l.length) (hb : l[i] = b) (hn : b ∉ (l.take i).drop fr) : cutAt b (l.drop fr) = (l.take i).drop fr :: cutAt b (l.drop (i + 1)) := by
  have e : l.drop fr = (l.take i).drop fr ++ b :: l.drop (i + 1) := by
    conv => lhs; rw [← List.take_append_drop i l]
    rw [List.drop_append_of_le_length (by rw [List.length_take]; omega), List.drop_eq_getElem_cons hi, hb]
  rw [e, cutAt_skip hn]
theorem extract_tx (s : ByteArray) (a b : Nat) : txt (s.extract a b) = ((txt s).take b).drop a := by
  show (s.extract a b).data.toList = _
  rw [Lib.extract_data, List.drop_take]
/-- What Parts ends in. -/
def RetSs (w : World) (l : List (List UInt8)) (e : Ending) (w' : World) : Prop := Below w.heap.size w w' ∧ ∃ (v : Value) (ss : List ByteArray), e = .returned v ∧ w'.ownsRow w.heap.size 9 1 v ss.length (ss.map Value.string) ∧ ss.map txt = l
set_option maxRecDepth 100000 in
set_option maxHeartbeats 8000000 in
theorem partsR_any {w : World} (s : ByteArray) (b : UInt8) (hs : s.size ≤ 131072) : Calls Tryz.prog 67 #[.string s, .int .u8 b.toNat] w (RetSs w (cutAt b (txt s))) := by
  obtain ⟨i0, hi0, hz0, hz1, hz2⟩ := info_parts info9
  have HSZ := Lib.hid (show (txt s).length = s.size by simp)
  go_enter Tryz.func67, Tryz.ntmps67
  go_wp2_with fail
  go_loopw [7, 6, 5] (fun t7 t6 t5 wr => ∃ (i fr : Nat) (ss : List ByteArray), t7 = .int .i64 i ∧ t6 = .int .i64 fr ∧ wr.ownsRow w.heap.size 9 1 t5 ss.length (ss.map Value.string) ∧ ss.length ≤ i ∧ Below w.heap.size w wr ∧
    ((i ≤ s.size ∧ fr ≤ i ∧ ss.map txt ++ cutAt b ((txt s).drop fr) = cutAt b (txt s) ∧ b ∉ ((txt s).take i).drop fr) ∨ (i = s.size + 1 ∧ ss.map txt = cutAt b (txt s)))) (fun t7 t6 t5 wr => s.size + 1 - (intOf t7).toNat)
  case atStart => exact ⟨0, 0, [], rfl, rfl, World.ownsRow_nil _ _ _ _, Nat.le_refl _, Below.refl _ _, .inl ⟨Nat.zero_le _, Nat.le_refl _, rfl, by simp⟩⟩
  case round =>
    obtain ⟨i, fr, ss, rfl, rfl, hown, hsl, hbl, hst⟩ := hrel
    have hszr := hbl.size
    rcases hst with ⟨hi, hf, heq, hnb⟩ | ⟨hi, heq⟩
    · have HEQ := Lib.hid heq
      have HNB := Lib.hid hnb
      clear heq hnb
      have d1 : decide ((i : Int) ≤ (s.size : Int)) = true := decide_eq_true (by omega)
      have hex : (s.extract fr i).size = i - fr := by
        have : (txt (s.extract fr i)).length = (s.extract fr i).size := by simp
        rw [← this, extract_tx, List.length_drop, List.length_take, HSZ.out]; omega
      have HEX := Lib.hid hex
      by_cases hlt : i < s.size
      · have d2 : ((i : Int) == (s.size : Int)) = false := by simp; omega
        have hlt' : i < (txt s).length := by rw [HSZ.out]; exact hlt
        by_cases hc : s[i] = b
        · have d3 : (((s[i]).toNat : Int) == (b.toNat : Int)) = true := by rw [hc]; simp
          have hpc := piece_cut hf hlt' (by rw [byte_get hlt]; exact hc) HNB.out
          have HPC := Lib.hid hpc
          clear hpc hc HNB
          go_wp2_with (at_builtin; refine wpList_append_lies _ rfl _ _ 27 rfl w.heap.size 9 i0 (.string ⟨#[]⟩) 1 16 Tryz.underlying27 hi0 hz0 hz1 hz2 rfl (by decide) _ _ _ rfl (hown.alloc _) ⟨wr.heap.size, 0, none⟩ 1 1 [.string (s.extract fr i)] rfl rfl (one_new _ _ _) (by simp [Value.oneCell']) (by decide) (by unfold maxLen; omega) (by omega) (by simp; omega) _ rfl ?_; intro g cap2 w2 hown2 hgr hat hg2)
          have hbl2 : Below w.heap.size w w2 := (hbl.alloc hszr _).grown hgr (by simp; omega) (fun j hj => (hown.lt j hj).1)
          go_wp2_with fail
          go_roundw
          case rel => exact ⟨i + 1, i + 1, ss ++ [s.extract fr i], by go_num, by go_num, by simpa using hown2, by simp; omega, hbl2, .inl ⟨by omega, Nat.le_refl _, by rw [List.map_append, List.append_assoc, ← HEQ.out, HPC.out]; simp [extract_tx], by rw [List.drop_take]; simp⟩⟩
          case measure => simp [intOf]; omega
        · have hne : (s[i]).toNat ≠ b.toNat := fun e => hc (UInt8.toNat_inj.1 e)
          have d3 : (((s[i]).toNat : Int) == (b.toNat : Int)) = false := by simp; omega
          have hnx : b ∉ ((txt s).take (i + 1)).drop fr := by
            rw [take_drop_snoc hf hlt']
            intro hm
            rcases List.mem_append.1 hm with hm | hm
            · exact HNB.out hm
            · rw [List.mem_singleton] at hm
              exact hc (by rw [← byte_get hlt]; exact hm.symm)
          have HNX := Lib.hid hnx
          clear hnx hc hne HNB
          go_wp2_with fail
          go_roundw
          case rel => exact ⟨i + 1, fr, ss, by go_num, rfl, hown, by omega, hbl, .inl ⟨by omega, by omega, HEQ.out, HNX.out⟩⟩
          case measure => simp [intOf]; omega
      · have his : i = s.size := by omega
        subst his
        have d2 : ((s.size : Int) == (s.size : Int)) = true := by simp
        have hpc : cutAt b ((txt s).drop fr) = [((txt s).take s.size).drop fr] := by
          have h := HNB.out
          rw [← HSZ.out, List.take_length] at h ⊢
          rw [cutAt_none h]
        have HPC := Lib.hid hpc
        clear hpc HNB
        go_wp2_with (at_builtin; refine wpList_append_lies _ rfl _ _ 27 rfl w.heap.size 9 i0 (.string ⟨#[]⟩) 1 16 Tryz.underlying27 hi0 hz0 hz1 hz2 rfl (by decide) _ _ _ rfl (hown.alloc _) ⟨wr.heap.size, 0, none⟩ 1 1 [.string (s.extract fr s.size)] rfl rfl (one_new _ _ _) (by simp [Value.oneCell']) (by decide) (by unfold maxLen; omega) (by omega) (by simp; omega) _ rfl ?_; intro g cap2 w2 hown2 hgr hat hg2)
        have hbl2 : Below w.heap.size w w2 := (hbl.alloc hszr _).grown hgr (by simp; omega) (fun j hj => (hown.lt j hj).1)
        go_wp2_with fail
        go_roundw
        case rel => exact ⟨s.size + 1, s.size + 1, ss ++ [s.extract fr s.size], by go_num, by go_num, by simpa using hown2, by simp; omega, hbl2, .inr ⟨rfl, by rw [List.map_append, ← HEQ.out, HPC.out]; simp [extract_tx]⟩⟩
        case measure => simp [intOf]
    · subst hi
      have d1 : decide (((s.size + 1 : Nat) : Int) ≤ (s.size : Int)) = false := decide_eq_false (by omega)
      have HEQ := Lib.hid heq
      clear heq
      go_wp2_with fail
      go_ret
      exact ⟨hbl, _, ss, rfl, hown, HEQ.out⟩
end Go.Proofs.YtddnmocoaahlfaaGreatDoor
namespace Go.Proofs.YtddnmocoaahlfaaGreatDoor
open Go.RowKit Go.Shelf
theorem srw_get {w : World} {p : Option Addr} {n c : Nat} {l : List ByteArray} (h : SRw w (.slice p n c) l) {i : Nat} (hi : i < l.length) : ∃ L o, p = some ⟨L, o, none⟩ ∧ w.cell? ⟨L, o + i, none⟩ = some (.string l[i]) := by
  rcases h with ⟨rfl, _⟩ | ⟨_, L, o, c', h1, _, h3⟩
  · simp at hi
  · injection h1 with h1 _ _
    exact ⟨L, o, h1, h3 i hi⟩
/-- The numbers so far and those of the texts still to come. -/
def numsFrom (ns : List Int) (r : List (List UInt8)) : Option (List Int) := match undecAllL r with | none => none | some l => some (ns ++ l)
theorem numsFrom_start (r : List (List UInt8)) : numsFrom [] r = undecAllL r := by unfold numsFrom; cases undecAllL r <;> rfl
theorem numsFrom_end (ns : List Int) : numsFrom ns [] = some ns := by unfold numsFrom undecAllL; simp
theorem undecAll_cons (s : List UInt8) (r : List (List UInt8)) : undecAllL (s :: r) = match undecL s with | none => none | some n => match undecAllL r with | none => none | some l => some (n :: l) := rfl
theorem numsFrom_next {ns : List Int} {s : List UInt8} {r : List (List UInt8)} {n : Int} (h : undecL s = some n) : numsFrom ns (s :: r) = numsFrom (ns ++ [n]) r := by
  unfold numsFrom
  rw [undecAll_cons, h]
  cases undecAllL r <;> simp
theorem numsFrom_stop {ns : List Int} {s : List UInt8} {r : List (List UInt8)} (h : undecL s = none) : numsFrom ns (s :: r) = none := by
  unfold numsFrom
  rw [undecAll_cons, h]
/-- What reading numbers ends in. -/
def RetNo (w : World) (r : Option (List Int)) (e : Ending) (w' : World) : Prop := Below w.heap.size w w' ∧ match r with
  | none => e = .returned (.tuple #[.slice none 0 0, .bool false])
  | some l => ∃ v, e = .returned (.tuple #[v, .bool true]) ∧ IRow w' w.heap.size v l
theorem drop_map {ss : List ByteArray} {k : Nat} (h : k < ss.length) : (ss.drop k).map txt = txt ss[k] :: (ss.drop (k + 1)).map txt := by rw [List.drop_eq_getElem_cons h]; rfl
set_option maxRecDepth 100000 in
set_option maxHeartbeats 8000000 in
theorem numbersR_any {w : World} {v : Value} {ss : List ByteArray} (hr : SRw w v ss) (hl : ss.length ≤ 131072) : Calls Tryz.prog 68 #[v] w (RetNo w (undecAllL (ss.map txt))) := by
  obtain ⟨i0, hi, hz0, hz1, hz2⟩ := info_parts info3
  obtain ⟨p, c, rfl⟩ := hr.form
  have HR := Lib.hid hr
  obtain ⟨res, hres⟩ : ∃ res, res = undecAllL (ss.map txt) := ⟨_, rfl⟩
  rw [← hres]
  have HS := Lib.hid hres
  have hcap : ss = [] ∨ ss.length ≤ c := by
    rcases hr with ⟨rfl, _⟩ | ⟨_, L, o, c', h1, h2, h3⟩
    · exact .inl rfl
    · injection h1 with _ _ h1; subst h1; exact .inr h2
  clear hres hr
  go_enter Tryz.func68, Tryz.ntmps68
  go_wp2_with fail
  go_loopw [5, 4] (fun t v4 wr => ∃ (k : Nat) (ns : List Int), t = .int .i64 k ∧ k ≤ ss.length ∧ ns.length = k ∧ wr.ownsRow w.heap.size 3 1 v4 ns.length (ns.map fun n => Value.int .i64 n) ∧ numsFrom ns ((ss.drop k).map txt) = res ∧ Below w.heap.size w wr) (fun t v4 wr => ss.length - (intOf t).toNat)
  case atStart => exact ⟨0, [], rfl, Nat.zero_le _, rfl, World.ownsRow_nil _ _ _ _, by rw [List.drop_zero, numsFrom_start]; exact HS.out.symm, Below.refl _ _⟩
  case round =>
    obtain ⟨k, ns, rfl, hk, hnk, hown, hev, hbl⟩ := hrel
    have hszr := hbl.size
    have HNK := Lib.hid hnk
    have hnl : ns.length ≤ 131072 := by omega
    clear hnk
    by_cases hlt : k < ss.length
    · obtain ⟨L, o, rfl, ck0⟩ := srw_get HR.out hlt
      have ck := cell_below ck0 hbl
      have hcc : ss.length ≤ c := hcap.resolve_left (fun e => by rw [e] at hlt; simp at hlt)
      rw [drop_map hlt] at hev
      have HE := Lib.hid hev
      generalize ss[k] = x at *
      have HRD := Lib.hid (read_any x wr)
      clear hev ck0
      cases hu : undecL (txt x) with
      | none =>
        have hrn : res = none := by rw [← HE.out, numsFrom_stop hu]
        have HRN := Lib.hid hrn
        have HU := Lib.hid hu
        clear hrn hu
        go_wp2_with fail
        refine HRD.out.mono ?_
        rintro e w1 ⟨rfl, n, b, rfl, hrd⟩
        have hb : b = false := by rw [hrd.some, HU.out]; rfl
        subst hb
        clear hrd
        go_wp2_with fail
        go_ret2
        unfold RetNo
        rw [HRN.out]
        exact ⟨hbl, rfl⟩
      | some n =>
        have hnx := numsFrom_next (ns := ns) (r := (ss.drop (k + 1)).map txt) hu
        have HNX := Lib.hid hnx
        have HU := Lib.hid hu
        clear hnx hu
        go_wp2_with fail
        refine HRD.out.mono ?_
        rintro e w1 ⟨rfl, x1, b, rfl, hrd⟩
        have hb : b = true := by rw [hrd.some, HU.out]; rfl
        have hx1 : x1 = n := hrd.val n HU.out
        subst hb
        subst hx1
        clear hrd
        go_wp2_with (at_builtin; refine wpList_append_lies _ rfl _ _ 22 rfl w.heap.size 3 i0 (.int .i64 0) 1 8 Tryz.underlying22 hi hz0 hz1 hz2 rfl (by decide) _ _ _ rfl (hown.alloc _) ⟨w1.heap.size, 0, none⟩ 1 1 [.int .i64 x1] rfl rfl (one_new _ _ _) (by simp [Value.oneCell']) (by decide) (by unfold maxLen; omega) (by omega) (by simp; omega) _ rfl ?_; intro g cap2 w2 hown2 hgr hat hg2)
        have hbl2 : Below w.heap.size w w2 := (hbl.alloc hszr _).grown hgr (by simp; omega) (fun j hj => (hown.lt j hj).1)
        go_wp2_with fail
        go_roundw
        case rel => exact ⟨k + 1, ns ++ [x1], by go_num, by omega, by simp [HNK.out], by simpa using hown2, by rw [← HNX.out]; exact HE.out, hbl2⟩
        case measure => simp [intOf]; omega
    · have hkk : k = ss.length := by omega
      have hrn : res = some ns := by rw [← hev, List.drop_of_length_le (by omega), List.map_nil, numsFrom_end]
      have HRN := Lib.hid hrn
      clear hrn hev
      go_wp2_with fail
      go_ret2
      unfold RetNo
      rw [HRN.out]
      exact ⟨hbl, _, rfl, hown⟩
end Go.Proofs.YtddnmocoaahlfaaGreatDoor
namespace Go.Proofs.YtddnmocoaahlfaaGreatDoor
open Go.RowKit
theorem setRow_heap (w : World) (R : Nat) (cs c' : Array Value) (t : TypeId) (h : Blk w R cs t) : Blk (w.setRow R c') R c' t := by
  unfold Blk at *
  unfold World.setRow
  simp [Array.getElem?_modify, h]
theorem setRow_other (w : World) (R : Nat) (c' : Array Value) {k : Nat} (h : k ≠ R) : (w.setRow R c').heap[k]? = w.heap[k]? := by
  unfold World.setRow
  simp [Array.getElem?_modify, Ne.symm h]
theorem setRow_stays (w : World) (R : Nat) (c' : Array Value) : Stays (fun k => k = R) w (w.setRow R c') :=
  ⟨rfl, rfl, rfl, by unfold World.setRow; simp, fun k hk hn => setRow_other w R c' hn⟩
theorem blk_store {w : World} {R : Nat} {cs c' : Array Value} {t : TypeId} (h : Blk w R cs t) (hi : (Tryz.prog.info? t).map (·.size) = some c'.size) (ho : cs.size = c'.size) (h1 : c'.toList.all (·.oneCell') = true) :
    (Instr.storeAt t (.pointer (some ⟨R, 0, none⟩)) (.agg c')).run Tryz.prog w = .ok () (w.setRow R c') := by
  simp only [Instr.storeAt, Instr.sureAddr, Sem.run_bind, Sem.run_pure, Result.andThen]
  exact run_storeVar_row _ _ t t cs c' h hi ho (by rw [← Array.all_toList]; exact h1)
end Go.Proofs.YtddnmocoaahlfaaGreatDoor
namespace Go.Proofs.YtddnmocoaahlfaaGreatDoor
open Go.RowKit Go.Shelf
end Go.Proofs.YtddnmocoaahlfaaGreatDoor
namespace Go.Proofs.YtddnmocoaahlfaaGreatDoor
open Go.RowKit
theorem elem27 : Tryz.prog.underlying 27 = some (.slice (Tryz.prog.elem 27)) := by kernel_rfl
theorem elemz27 (w : World) : (sizeOf (Tryz.prog.elem 27)).run Tryz.prog w = .ok 1 w := by kernel_rfl
/-- A row of strings without its first one. -/
theorem tail27 (g o m c : Nat) (hc : m + 1 ≤ c) : ∃ A : Addr, (m ≠ 0 → A = ⟨g, o + 1, none⟩) ∧ ∀ w, (Instr.sliceAt 27 (.slice (some ⟨g, o, none⟩) (m + 1) c) (some (.int .i64 1)) none none).run Tryz.prog w = .ok (.slice (some A) m (c - 1)) w := by
  by_cases h1 : c = 1
  · subst h1
    refine ⟨⟨g, o, none⟩, fun h => by omega, fun w => ?_⟩
    rw [run_sliceAt_slice w 27 _ _ _ _ elem27, run_slice_l w 27 _ _ _ elem27 _ _ (by decide) (by omega), elemz27]
    simp [Result.andThen, sliced]
  · refine ⟨⟨g, o + 1, none⟩, fun _ => rfl, fun w => ?_⟩
    rw [run_sliceAt_slice w 27 _ _ _ _ elem27, run_slice_l w 27 _ _ _ elem27 _ _ (by decide) (by omega), elemz27]
    have : (1 : Int).toNat = 1 := rfl
    simp [Result.andThen, sliced, h1, Addr.add]
/-- The rest of a row of strings. -/
theorem srw_tail {w : World} {v : Value} {s : ByteArray} {st : List ByteArray} (h : SRw w v (s :: st)) : ∃ g o c, v = .slice (some ⟨g, o, none⟩) (st.length + 1) c ∧ st.length + 1 ≤ c ∧ w.cell? ⟨g, o, none⟩ = some (.string s) ∧
    ∃ A : Addr, (∀ w, (Instr.sliceAt 27 (.slice (some ⟨g, o, none⟩) (st.length + 1) c) (some (.int .i64 1)) none none).run Tryz.prog w = .ok (.slice (some A) st.length (c - 1)) w) ∧ SRw w (.slice (some A) st.length (c - 1)) st := by
  rcases h with ⟨h0, _⟩ | ⟨_, g, o, c, rfl, h2, h3⟩
  · cases h0
  · simp only [List.length_cons] at h2 ⊢
    obtain ⟨A, hA, hs⟩ := tail27 g o st.length c h2
    refine ⟨g, o, c, rfl, h2, h3 0 (by simp), A, hs, ?_⟩
    by_cases hst : st = []
    · subst hst; exact .inl ⟨rfl, _, _, rfl⟩
    · refine .inr ⟨hst, g, o + 1, c - 1, by rw [hA (fun e => hst (List.length_eq_zero_iff.1 e))], by omega, fun j hj => ?_⟩
      have := h3 (j + 1) (by simp; omega)
      rw [show o + 1 + j = o + (j + 1) by omega, this]
      rfl
end Go.Proofs.YtddnmocoaahlfaaGreatDoor
namespace Go.Proofs.YtddnmocoaahlfaaGreatDoor
open Go.RowKit Go.Shelf
theorem cut_cons (b : UInt8) (s : List UInt8) : ∃ u us, cutAt b s = u :: us := by
  obtain ⟨u, us, h⟩ := List.exists_cons_of_ne_nil (cutAt_ne b s)
  exact ⟨u, us, h⟩
end Go.Proofs.YtddnmocoaahlfaaGreatDoor
namespace Go.Proofs.YtddnmocoaahlfaaGreatDoor
open Go.RowKit Go.Shelf
theorem atoi3 (l : List UInt8) : (∃ v, Lib.atoiAll l = .ok v) ∨ Lib.atoiAll l = .range ∨ Lib.atoiAll l = Lib.atoiAll [] := by
  cases h : Lib.atoiAll l with
  | ok v => exact .inl ⟨v, rfl⟩
  | range => exact .inr (.inl rfl)
  | _ => exact .inr (.inr rfl)
/-- What Atoi ends in. -/
def RetAt (w : World) (l : List UInt8) (e : Ending) (w' : World) : Prop := Below w.heap.size w w' ∧ ((∃ v, e = .returned (.tuple #[.int .i64 v, .nilIface]) ∧ Lib.atoiAll l = .ok v) ∨ (∃ x N, e = .returned (.tuple #[.int .i64 x, .iface 229 (.pointer (some ⟨N, 0, none⟩))]) ∧ undecL l = none))
theorem atoi_any {w : World} (hr : ErrR w) (hs : ErrS w) (s : ByteArray) (hsz : s.size ≤ 65536) : Calls Tryz.prog 122 #[.string s] w (RetAt w (txt s)) := by
  rcases atoi3 (txt s) with ⟨v, h⟩ | h | h
  · refine (Tryz.strconv_Atoi_ok s (by omega) v h w).mono ?_
    rintro e w' ⟨rfl, rfl | ⟨t, rfl⟩⟩
    · exact ⟨Below.refl _ _, .inl ⟨v, rfl, h⟩⟩
    · exact ⟨Go.Joins.below_bytesWorld _ _ _ _ (Nat.le_refl _), .inl ⟨v, rfl, h⟩⟩
  · obtain ⟨ev, h1, h2⟩ := hr
    refine (Tryz.strconv_Atoi_range s (by omega) h ev w h1 h2).mono ?_
    rintro e w' ⟨N, rfl, _, _, hb⟩
    exact ⟨hb, .inr ⟨_, N, rfl, by unfold undecL; rw [h]⟩⟩
  · obtain ⟨ev, h1, h2⟩ := hs
    refine (Tryz.strconv_Atoi_syntax s (by omega) h ev w h1 h2).mono ?_
    rintro e w' ⟨N, rfl, _, _, hb⟩
    exact ⟨hb, .inr ⟨_, N, rfl, by unfold undecL; rw [h]; rfl⟩⟩
/-- What undec ends in. -/
def RetUn (w : World) (l : List UInt8) (e : Ending) (w' : World) : Prop := Below w.heap.size w w' ∧ ∃ x b, e = .returned (.tuple #[.int .i64 x, .bool b]) ∧ b = (undecL l).isSome ∧ ∀ v, undecL l = some v → x = v
set_option maxRecDepth 100000 in
set_option maxHeartbeats 4000000 in
theorem undec_any {w : World} (he : Env w) (s : ByteArray) (hsz : s.size ≤ 65536) : Calls Tryz.prog 79 #[.string s] w (RetUn w (txt s)) := by
  have HA := Lib.hid (atoi_any he.errR he.errS s hsz)
  have HE := Lib.hid he
  clear he
  go_enter Tryz.func79, Tryz.ntmps79
  go_wp2_with fail
  refine HA.out.mono ?_
  rintro e w1 ⟨b1, ⟨v, rfl, h⟩ | ⟨x, N, rfl, h⟩⟩
  · have HD := Lib.hid (dec_any (tab_below HE.out.tab b1) (Lib.atoiAll_bounds h))
    have hu : undecL (txt s) = if Lib.itoa v = txt s then some v else none := by unfold undecL; rw [h]
    have HU := Lib.hid hu
    clear h hu
    go_wp2_with fail
    refine HD.out.mono ?_
    rintro e w2 ⟨b2, sd, rfl, hsd⟩
    have hb : (sd.toList == s.toList) = decide (Lib.itoa v = txt s) := by rw [ByteArray.toList_eq s, lit_str', hsd]
    have HB := Lib.hid hb
    clear hsd hb
    go_wp2_with fail
    go_ret2
    refine ⟨b1.trans (b2.mono b1.size), v, _, rfl, ?_, ?_⟩
    · rw [HB.out, HU.out]
      by_cases he : Lib.itoa v = txt s
      · simp [he]
      · simp [he]
    · intro v' hv'
      rw [HU.out] at hv'
      split at hv'
      · injection hv'
      · cases hv'
  · have HU := Lib.hid h
    clear h
    go_wp2_with fail
    go_ret2
    exact ⟨b1, x, false, rfl, by rw [HU.out]; rfl, fun v hv => by rw [HU.out] at hv; cases hv⟩
set_option maxRecDepth 100000 in
set_option maxHeartbeats 8000000 in
theorem undecAll_any {w : World} (he : Env w) {v : Value} {ss : List ByteArray} (hr : SRw w v ss) (hl : ss.length ≤ 131072) (hsz : ∀ x ∈ ss, x.size ≤ 65536) : Calls Tryz.prog 45 #[v] w (RetNo w (undecAllL (ss.map txt))) := by
  obtain ⟨i0, hi, hz0, hz1, hz2⟩ := info_parts info3
  obtain ⟨p, c, rfl⟩ := hr.form
  have HR := Lib.hid hr
  have HE := Lib.hid he
  have HSZ := Lib.hid hsz
  obtain ⟨res, hres⟩ : ∃ res, res = undecAllL (ss.map txt) := ⟨_, rfl⟩
  rw [← hres]
  have HS := Lib.hid hres
  have hcap : ss = [] ∨ ss.length ≤ c := by
    rcases hr with ⟨rfl, _⟩ | ⟨_, L, o, c', h1, h2, h3⟩
    · exact .inl rfl
    · injection h1 with _ _ h1; subst h1; exact .inr h2
  clear hres hr he hsz
  go_enter Tryz.func45, Tryz.ntmps45
  go_wp2_with fail
  go_loopw [11, 4] (fun t v4 wr => ∃ (k : Nat) (ns : List Int), t = .int .i64 k ∧ k ≤ ss.length ∧ ns.length = k ∧ wr.ownsRow w.heap.size 3 1 v4 ns.length (ns.map fun n => Value.int .i64 n) ∧ numsFrom ns ((ss.drop k).map txt) = res ∧ Below w.heap.size w wr) (fun t v4 wr => ss.length - (intOf t).toNat)
  case atStart => exact ⟨0, [], rfl, Nat.zero_le _, rfl, World.ownsRow_nil _ _ _ _, by rw [List.drop_zero, numsFrom_start]; exact HS.out.symm, Below.refl _ _⟩
  case round =>
    obtain ⟨k, ns, rfl, hk, hnk, hown, hev, hbl⟩ := hrel
    have hszr := hbl.size
    have HNK := Lib.hid hnk
    have hnl : ns.length ≤ 131072 := by omega
    clear hnk
    by_cases hlt : k < ss.length
    · obtain ⟨L, o, rfl, ck0⟩ := srw_get HR.out hlt
      have ck := cell_below ck0 hbl
      have hcc : ss.length ≤ c := hcap.resolve_left (fun e => by rw [e] at hlt; simp at hlt)
      rw [drop_map hlt] at hev
      have HE2 := Lib.hid hev
      have hxs := HSZ.out ss[k] (List.getElem_mem hlt)
      generalize ss[k] = x at *
      have HRD := Lib.hid (undec_any (HE.out.below hbl) x hxs)
      clear hev ck0
      cases hu : undecL (txt x) with
      | none =>
        have hrn : res = none := by rw [← HE2.out, numsFrom_stop hu]
        have HRN := Lib.hid hrn
        have HU := Lib.hid hu
        clear hrn hu
        go_wp2_with fail
        refine HRD.out.mono ?_
        rintro e w1 ⟨b1, n, b, rfl, hb, _⟩
        rw [HU.out] at hb
        have hb' : b = false := hb
        subst hb'
        clear hb
        go_wp2_with fail
        go_ret2
        unfold RetNo
        rw [HRN.out]
        exact ⟨hbl.trans (b1.mono hszr), rfl⟩
      | some n =>
        have hnx := numsFrom_next (ns := ns) (r := (ss.drop (k + 1)).map txt) hu
        have HNX := Lib.hid hnx
        have HU := Lib.hid hu
        clear hnx hu
        go_wp2_with fail
        refine HRD.out.mono ?_
        rintro e w1 ⟨b1, x1, b, rfl, hb, hv1⟩
        rw [HU.out] at hb
        have hb' : b = true := hb
        have hx1 : x1 = n := hv1 n HU.out
        subst hb'
        subst hx1
        clear hb hv1
        have hown1 : w1.ownsRow w.heap.size 3 1 _ ns.length (ns.map fun n => Value.int .i64 n) := row_keep hown (fun j hj => b1.block j (hown.lt j hj).2)
        have hbl1 := hbl.trans (b1.mono hszr)
        have hsz1 := hbl1.size
        go_wp2_with (at_builtin; refine wpList_append_lies _ rfl _ _ 22 rfl w.heap.size 3 i0 (.int .i64 0) 1 8 Tryz.underlying22 hi hz0 hz1 hz2 rfl (by decide) _ _ _ rfl (hown1.alloc _) ⟨w1.heap.size, 0, none⟩ 1 1 [.int .i64 x1] rfl rfl (one_new _ _ _) (by simp [Value.oneCell']) (by decide) (by unfold maxLen; omega) (by omega) (by simp; omega) _ rfl ?_; intro g cap2 w2 hown2 hgr hat hg2)
        have hbl2 : Below w.heap.size w w2 := (hbl1.alloc hsz1 _).grown hgr (by simp; omega) (fun j hj => (hown.lt j hj).1)
        go_wp2_with fail
        go_roundw
        case rel => exact ⟨k + 1, ns ++ [x1], by go_num, by omega, by simp [HNK.out], by simpa using hown2, by rw [← HNX.out]; exact HE2.out, hbl2⟩
        case measure => simp [intOf]; omega
    · have hkk : k = ss.length := by omega
      have hrn : res = some ns := by rw [← hev, List.drop_of_length_le (by omega), List.map_nil, numsFrom_end]
      have HRN := Lib.hid hrn
      clear hrn hev
      go_wp2_with fail
      go_ret2
      unfold RetNo
      rw [HRN.out]
      exact ⟨hbl, _, rfl, hown⟩
end Go.Proofs.YtddnmocoaahlfaaGreatDoor
namespace Go.Proofs.YtddnmocoaahlfaaGreatDoor
open Go.RowKit
def pWords : Array Value := #[.string ⟨#[]⟩, .string ⟨#[97, 108, 112, 104, 97, 98, 101, 116]⟩, .string ⟨#[108, 101, 110, 103, 116, 104]⟩, .string ⟨#[98, 97, 110, 110, 101, 100]⟩, .string ⟨#[99, 104, 101, 99, 107]⟩, .string ⟨#[108, 97, 121, 111, 117, 116]⟩, .string ⟨#[99, 111, 115, 116, 115]⟩, .string ⟨#[115, 104, 101, 101, 116, 115]⟩, .string ⟨#[112, 114, 101, 115, 115, 101, 115]⟩, .string ⟨#[108, 105, 102, 101]⟩, .string ⟨#[112, 108, 97, 116, 101, 115]⟩, .string ⟨#[100, 114, 121]⟩, .string ⟨#[118, 97, 117, 108, 116, 115]⟩, .string ⟨#[98, 108, 111, 99, 107, 115]⟩]
def pWordsZ : Array Value := #[.string ⟨#[]⟩, .string ⟨#[]⟩, .string ⟨#[]⟩, .string ⟨#[]⟩, .string ⟨#[]⟩, .string ⟨#[]⟩, .string ⟨#[]⟩, .string ⟨#[]⟩, .string ⟨#[]⟩, .string ⟨#[]⟩, .string ⟨#[]⟩, .string ⟨#[]⟩, .string ⟨#[]⟩, .string ⟨#[]⟩]
theorem pWords_build (w : World) : (Instr.build 189 #[(0, .string ⟨#[]⟩), (1, .string ⟨#[97, 108, 112, 104, 97, 98, 101, 116]⟩), (2, .string ⟨#[108, 101, 110, 103, 116, 104]⟩), (3, .string ⟨#[98, 97, 110, 110, 101, 100]⟩), (4, .string ⟨#[99, 104, 101, 99, 107]⟩), (5, .string ⟨#[108, 97, 121, 111, 117, 116]⟩), (6, .string ⟨#[99, 111, 115, 116, 115]⟩), (7, .string ⟨#[115, 104, 101, 101, 116, 115]⟩), (8, .string ⟨#[112, 114, 101, 115, 115, 101, 115]⟩), (9, .string ⟨#[108, 105, 102, 101]⟩), (10, .string ⟨#[112, 108, 97, 116, 101, 115]⟩), (11, .string ⟨#[100, 114, 121]⟩), (12, .string ⟨#[118, 97, 117, 108, 116, 115]⟩), (13, .string ⟨#[98, 108, 111, 99, 107, 115]⟩)]).run Tryz.prog w = .ok (.agg pWords) w := by kernel_rfl
theorem pWords_alloc (w : World) : (Instr.alloc 189 true (.tuple #[])).run Tryz.prog w = .ok (.pointer (some ⟨w.heap.size, 0, none⟩)) (w.alloc (.cells pWordsZ 189)) := by kernel_rfl
theorem pWords_store (w : World) : (Instr.storeAt 189 (.pointer (some ⟨w.heap.size, 0, none⟩)) (.agg pWords)).run Tryz.prog (w.alloc (.cells pWordsZ 189)) = .ok () (w.alloc (.cells pWords 189)) := run_storeAt_new w 189 pWordsZ pWords (by kernel_rfl) rfl (by kernel_rfl)
def pCounts : Array Value := #[.int .i64 0, .int .i64 0, .int .i64 1, .int .i64 0, .int .i64 1, .int .i64 5, .int .i64 3, .int .i64 1, .int .i64 1, .int .i64 1, .int .i64 1, .int .i64 1, .int .i64 1, .int .i64 1]
def pCountsZ : Array Value := #[.int .i64 0, .int .i64 0, .int .i64 0, .int .i64 0, .int .i64 0, .int .i64 0, .int .i64 0, .int .i64 0, .int .i64 0, .int .i64 0, .int .i64 0, .int .i64 0, .int .i64 0, .int .i64 0]
theorem pCounts_build (w : World) : (Instr.build 190 #[(0, .int .i64 0), (1, .int .i64 0), (2, .int .i64 1), (3, .int .i64 0), (4, .int .i64 1), (5, .int .i64 5), (6, .int .i64 3), (7, .int .i64 1), (8, .int .i64 1), (9, .int .i64 1), (10, .int .i64 1), (11, .int .i64 1), (12, .int .i64 1), (13, .int .i64 1)]).run Tryz.prog w = .ok (.agg pCounts) w := by kernel_rfl
theorem pCounts_alloc (w : World) : (Instr.alloc 190 true (.tuple #[])).run Tryz.prog w = .ok (.pointer (some ⟨w.heap.size, 0, none⟩)) (w.alloc (.cells pCountsZ 190)) := by kernel_rfl
theorem pCounts_store (w : World) : (Instr.storeAt 190 (.pointer (some ⟨w.heap.size, 0, none⟩)) (.agg pCounts)).run Tryz.prog (w.alloc (.cells pCountsZ 190)) = .ok () (w.alloc (.cells pCounts 190)) := run_storeAt_new w 190 pCountsZ pCounts (by kernel_rfl) rfl (by kernel_rfl)
end Go.Proofs.YtddnmocoaahlfaaGreatDoor
namespace Go.Proofs.YtddnmocoaahlfaaGreatDoor
open Go.RowKit Go.Shelf
def tokB (c : UInt8) : Bool := 33 ≤ c && c ≤ 126
theorem tokB_range {c : UInt8} : tokB c = true ↔ 33 ≤ c.toNat ∧ c.toNat ≤ 126 := by
  unfold tokB
  simp only [Bool.and_eq_true, decide_eq_true_eq, UInt8.le_iff_toNat_le]
  exact Iff.rfl
set_option maxRecDepth 100000 in
set_option maxHeartbeats 4000000 in
theorem isTok_any (s : ByteArray) (w : World) (hs : s.size ≤ 281474976710656) : Calls Tryz.prog 48 #[.string s] w (fun e w' => e = .returned (.bool (isTokL (txt s))) ∧ w' = w) := by
  obtain ⟨res, hres⟩ : ∃ res, res = isTokL (txt s) := ⟨_, rfl⟩
  rw [← hres]
  have HS := Lib.hid hres
  have HSZ := Lib.hid (show (txt s).length = s.size by simp)
  clear hres
  go_enter Tryz.func48, Tryz.ntmps48
  go_wp2_with fail
  go_loop [6] (fun t => ∃ m : Nat, m ≤ s.size ∧ t = .int .i64 m ∧ ((txt s).take m).all tokB = true) (fun t => s.size - (intOf t).toNat)
  case atStart => exact ⟨0, Nat.zero_le _, rfl, by simp⟩
  case round =>
    obtain ⟨m, hm, rfl, hc⟩ := hrel
    have HC := Lib.hid hc
    clear hc
    by_cases hl : m < s.size
    · have hml : m < (txt s).length := by rw [HSZ.out]; exact hl
      have hst : (txt s).take (m + 1) = (txt s).take m ++ [s[m]] := by rw [List.take_succ_eq_append_getElem hml, byte_get hl]
      have hmem : s[m] ∈ txt s := by rw [← byte_get hl]; exact List.getElem_mem _
      have HST := Lib.hid hst
      have HM := Lib.hid hmem
      clear hst hmem
      by_cases hb : tokB s[m] = true
      · have hr := tokB_range.1 hb
        have e1 : decide (((s[m]).toNat : Int) < 33) = false := decide_eq_false (by omega)
        have e2 : decide ((126 : Int) < ((s[m]).toNat : Int)) = false := decide_eq_false (by omega)
        have HB := Lib.hid hb
        clear hb
        go_wp2_with fail
        go_round
        case rel => exact ⟨m + 1, by omega, by go_num, by rw [HST.out, List.all_append, HC.out]; simp [HB.out]⟩
        case measure => simp [intOf]; omega
      · have hr : res = false := by
          rw [HS.out]
          unfold isTokL
          have : (txt s).all (fun c => 33 ≤ c && c ≤ 126) = false := by
            rw [Bool.eq_false_iff]
            intro h
            rw [List.all_eq_true] at h
            exact hb (h _ HM.out)
          rw [this]; rfl
        subst hr
        have hr2 := mt tokB_range.2 hb
        rcases Nat.lt_or_ge (s[m]).toNat 33 with h | h
        · have e1 : decide (((s[m]).toNat : Int) < 33) = true := decide_eq_true (by omega)
          clear hb hr2
          go_wp2_with fail
          go_ret
          exact ⟨rfl, rfl⟩
        · have e1 : decide (((s[m]).toNat : Int) < 33) = false := decide_eq_false (by omega)
          have e2 : decide ((126 : Int) < ((s[m]).toNat : Int)) = true := decide_eq_true (by omega)
          clear hb hr2
          go_wp2_with fail
          go_ret
          exact ⟨rfl, rfl⟩
    · have hms : m = s.size := by omega
      have hall : (txt s).all (fun c => 33 ≤ c && c ≤ 126) = true := by
        have h := HC.out
        rw [hms, ← HSZ.out, List.take_length] at h
        exact h
      have hr : res = (decide (1 ≤ s.size) && decide (s.size ≤ 64)) := by
        rw [HS.out]; unfold isTokL; rw [hall, HSZ.out]; rfl
      have HR := Lib.hid hr
      clear hall hr
      by_cases h1 : 1 ≤ s.size
      · have d1 : decide ((0 : Int) < (s.size : Int)) = true := decide_eq_true (by omega)
        by_cases h2 : s.size ≤ 64
        · have d2 : decide ((s.size : Int) ≤ 64) = true := decide_eq_true (by omega)
          have hr : res = true := by rw [HR.out]; simp [h1, h2]
          subst hr
          go_wp2_with fail
          go_ret
          exact ⟨rfl, rfl⟩
        · have d2 : decide ((s.size : Int) ≤ 64) = false := decide_eq_false (by omega)
          have hr : res = false := by rw [HR.out]; simp [h2]
          subst hr
          go_wp2_with fail
          go_ret
          exact ⟨rfl, rfl⟩
      · have d1 : decide ((0 : Int) < (s.size : Int)) = false := decide_eq_false (by omega)
        have hr : res = false := by rw [HR.out]; simp [h1]
        subst hr
        go_wp2_with fail
        go_ret
        exact ⟨rfl, rfl⟩
set_option maxRecDepth 100000 in
set_option maxHeartbeats 4000000 in
theorem token_any (s : ByteArray) (w : World) (hs : s.size ≤ 281474976710656) : Calls Tryz.prog 72 #[.string s] w (fun e w' => e = .returned (.bool (isTokL (txt s))) ∧ w' = w) := by
  obtain ⟨res, hres⟩ : ∃ res, res = isTokL (txt s) := ⟨_, rfl⟩
  rw [← hres]
  have HS := Lib.hid hres
  have HSZ := Lib.hid (show (txt s).length = s.size by simp)
  clear hres
  go_enter Tryz.func72, Tryz.ntmps72
  go_wp2_with fail
  go_loop [3] (fun t => ∃ m : Nat, m ≤ s.size ∧ t = .int .i64 m ∧ ((txt s).take m).all tokB = true) (fun t => s.size - (intOf t).toNat)
  case atStart => exact ⟨0, Nat.zero_le _, rfl, by simp⟩
  case round =>
    obtain ⟨m, hm, rfl, hc⟩ := hrel
    have HC := Lib.hid hc
    clear hc
    by_cases hl : m < s.size
    · have hml : m < (txt s).length := by rw [HSZ.out]; exact hl
      have hst : (txt s).take (m + 1) = (txt s).take m ++ [s[m]] := by rw [List.take_succ_eq_append_getElem hml, byte_get hl]
      have hmem : s[m] ∈ txt s := by rw [← byte_get hl]; exact List.getElem_mem _
      have HST := Lib.hid hst
      have HM := Lib.hid hmem
      clear hst hmem
      by_cases hb : tokB s[m] = true
      · have hr := tokB_range.1 hb
        have e1 : decide (((s[m]).toNat : Int) < 33) = false := decide_eq_false (by omega)
        have e2 : decide ((126 : Int) < ((s[m]).toNat : Int)) = false := decide_eq_false (by omega)
        have HB := Lib.hid hb
        clear hb
        go_wp2_with fail
        go_round
        case rel => exact ⟨m + 1, by omega, by go_num, by rw [HST.out, List.all_append, HC.out]; simp [HB.out]⟩
        case measure => simp [intOf]; omega
      · have hr : res = false := by
          rw [HS.out]
          unfold isTokL
          have : (txt s).all (fun c => 33 ≤ c && c ≤ 126) = false := by
            rw [Bool.eq_false_iff]
            intro h
            rw [List.all_eq_true] at h
            exact hb (h _ HM.out)
          rw [this]; rfl
        subst hr
        have hr2 := mt tokB_range.2 hb
        rcases Nat.lt_or_ge (s[m]).toNat 33 with h | h
        · have e1 : decide (((s[m]).toNat : Int) < 33) = true := decide_eq_true (by omega)
          clear hb hr2
          go_wp2_with fail
          go_ret
          exact ⟨rfl, rfl⟩
        · have e1 : decide (((s[m]).toNat : Int) < 33) = false := decide_eq_false (by omega)
          have e2 : decide ((126 : Int) < ((s[m]).toNat : Int)) = true := decide_eq_true (by omega)
          clear hb hr2
          go_wp2_with fail
          go_ret
          exact ⟨rfl, rfl⟩
    · have hms : m = s.size := by omega
      have hall : (txt s).all (fun c => 33 ≤ c && c ≤ 126) = true := by
        have h := HC.out
        rw [hms, ← HSZ.out, List.take_length] at h
        exact h
      have hr : res = (decide (1 ≤ s.size) && decide (s.size ≤ 64)) := by
        rw [HS.out]; unfold isTokL; rw [hall, HSZ.out]; rfl
      have HR := Lib.hid hr
      clear hall hr
      by_cases h1 : 1 ≤ s.size
      · have d1 : decide ((1 : Int) ≤ (s.size : Int)) = true := decide_eq_true (by omega)
        by_cases h2 : s.size ≤ 64
        · have d2 : decide ((s.size : Int) ≤ 64) = true := decide_eq_true (by omega)
          have hr : res = true := by rw [HR.out]; simp [h1, h2]
          subst hr
          go_wp2_with fail
          go_ret
          exact ⟨rfl, rfl⟩
        · have d2 : decide ((s.size : Int) ≤ 64) = false := decide_eq_false (by omega)
          have hr : res = false := by rw [HR.out]; simp [h2]
          subst hr
          go_wp2_with fail
          go_ret
          exact ⟨rfl, rfl⟩
      · have d1 : decide ((1 : Int) ≤ (s.size : Int)) = false := decide_eq_false (by omega)
        have hr : res = false := by rw [HR.out]; simp [h1]
        subst hr
        go_wp2_with fail
        go_ret
        exact ⟨rfl, rfl⟩
end Go.Proofs.YtddnmocoaahlfaaGreatDoor
namespace Go.Proofs.YtddnmocoaahlfaaGreatDoor
open Go.RowKit Go.Shelf
end Go.Proofs.YtddnmocoaahlfaaGreatDoor
namespace Go.Proofs.YtddnmocoaahlfaaGreatDoor
open Go.RowKit Go.Shelf
end Go.Proofs.YtddnmocoaahlfaaGreatDoor
namespace Go.Proofs.YtddnmocoaahlfaaGreatDoor
open Go.RowKit Go.Shelf
end Go.Proofs.YtddnmocoaahlfaaGreatDoor
