/-
  The law ScriptSpaced, walked. Conditions: the package-level variables hold what the program lays.
-/
import Derived.Test.YtddnmocoaahlfaaGreatDoorSame
set_option linter.unusedVariables false
set_option linter.unusedSimpArgs false
namespace Go.Proofs.YtddnmocoaahlfaaGreatDoor
open Go.RowKit Go.Shelf

theorem cat_ok {a b : ByteArray} (h : a.size + b.size ≤ 9223372036854775807) : Op.stringOp .add a b = pure (.string (a ++ b)) := by
  unfold Op.stringOp
  exact if_neg (show ¬ (((a.size + b.size : Nat) : Int) > 9223372036854775807) by omega)
theorem txt_append (a b : ByteArray) : txt (a ++ b) = txt a ++ txt b := by simp
/-- Compile's results, in one form. -/
def RetC (w : World) (t : List UInt8) (e : Ending) (w' : World) : Prop := Below w.heap.size w w' ∧ ∃ v, e = .returned (.tuple #[v, .int .i64 (compT t).2.1, .int .i64 (compT t).2.2]) ∧ ActsAt w' w.heap.size v (compT t).1 ∧ (compT t).1.length ≤ 4096
theorem comp_any {w : World} (he : Env w) (s : ByteArray) : Calls Tryz.prog 29 #[.string s] w (RetC w (txt s)) := by
  refine (compile_any he.maxv he.errR he.acts s).mono ?_
  rintro e w' ⟨h1, h2⟩
  unfold RetC compT
  cases hc : compileL (txt s) with
  | error ke =>
    obtain ⟨k, c⟩ := ke
    rw [hc] at h2
    exact ⟨h1, _, h2, ⟨[], World.ownsRow_nil _ _ _ _, by unfold KeepAll; rfl⟩, by simp⟩
  | ok acts =>
    rw [hc] at h2
    obtain ⟨h3, v, h4, h5⟩ := h2
    exact ⟨h1, v, h4, h5, h3⟩
theorem ActsAt.below {w w' : World} {b : Nat} {v : Value} {ac : List Act5} (h : ActsAt w b v ac) (hb : Below w.heap.size w w') : ActsAt w' b v ac := h.typed (RowsKept.below hb)
theorem ActsAt.form {w : World} {b : Nat} {v : Value} {ac : List Act5} (h : ActsAt w b v ac) : ∃ p c, v = .slice p ac.length c := let ⟨p, c, h1, _⟩ := h.get; ⟨p, c, h1⟩
/-- What a law ends in. -/
abbrev RetT (w : World) (e : Ending) (w' : World) : Prop := e = .returned (.bool true) ∧ Below w.heap.size w w'
theorem flat_cons (c : UInt8) (t : List UInt8) : flat (c :: t) = (if c = 32 then [32, 32, 32] else if c = 10 then 10 :: (remark ++ [10, 32, 32]) else [c]) ++ flat t := by
  conv => lhs; unfold flat
  split
  · rfl
  · split
    · simp
    · rfl
set_option maxRecDepth 100000 in
set_option maxHeartbeats 8000000 in
theorem spaced_walk {w : World} (he : Env w) (s : ByteArray) : Calls Tryz.prog 9 #[.string s] w (RetT w) := by
  by_cases hbig : 1000 < s.size
  · have hd : decide ((1000 : Int) < (s.size : Int)) = true := decide_eq_true (by omega)
    have HA := Lib.hid (awake_any he)
    clear he
    go_enter Tryz.func9, Tryz.ntmps9
    go_wp2_with fail
    refine HA.out.mono ?_
    rintro e w1 ⟨rfl, b1⟩
    go_wp2_with fail
    go_ret
    exact ⟨rfl, b1⟩
  · have hd : decide ((1000 : Int) < (s.size : Int)) = false := decide_eq_false (by omega)
    have HE := Lib.hid he
    have hsl : (txt s).length = s.size := by simp
    have HSL := Lib.hid hsl
    clear he hsl
    go_enter Tryz.func9, Tryz.ntmps9
    go_wp2_with fail
    go_loop [4, 3] (fun t v => ∃ (i : Nat) (sp : ByteArray), t = .int .i64 i ∧ i ≤ s.size ∧ v = .string sp ∧ txt sp ++ flat ((txt s).drop i) = spacedOf (txt s) ∧ sp.size ≤ 12 + 12 * i) (fun t v => s.size - (intOf t).toNat)
    case atStart => exact ⟨0, _, rfl, Nat.zero_le _, rfl, rfl, by decide⟩
    case round =>
      obtain ⟨i, sp, rfl, hi, rfl, hsp, hsz⟩ := hrel
      have HSP := Lib.hid hsp
      clear hsp
      by_cases hlt : i < s.size
      · have hdr := drop_byte hlt
        rw [byteAt_lt hlt] at hdr
        have hx1 : txt (s.extract i (i + 1)) = [s[i]] := by
          show (s.extract i (i + 1)).data.toList = _
          rw [Lib.extract_data]
          rw [show i + 1 - i = 1 by omega, hdr]
          rfl
        have hx2 : (s.extract i (i + 1)).size = 1 := by
          have : (txt (s.extract i (i + 1))).length = (s.extract i (i + 1)).size := by simp
          rw [← this, hx1]; rfl
        have hc1 := cat_ok (a := sp) (b := s.extract i (i + 1)) (by omega)
        have hc2 := cat_ok (a := sp ++ s.extract i (i + 1)) (b := ⟨#[32, 32]⟩) (by rw [ByteArray.size_append]; have : (⟨#[32, 32]⟩ : ByteArray).size = 2 := rfl; omega)
        have hc3 := cat_ok (a := sp ++ s.extract i (i + 1)) (b := ⟨#[32, 32, 32, 35, 120, 32, 121, 10, 32, 32]⟩) (by rw [ByteArray.size_append]; have : (⟨#[32, 32, 32, 35, 120, 32, 121, 10, 32, 32]⟩ : ByteArray).size = 10 := rfl; omega)
        have hsp := HSP.out
        rw [hdr, flat_cons] at hsp
        have HX1 := Lib.hid hx1
        have HX2 := Lib.hid hx2
        have HSP2 := Lib.hid hsp
        clear hdr hx1 hx2 hsp HSP
        by_cases h32 : s[i] = 32
        · have d1 : (((s[i]).toNat : Int) == 32) = true := by rw [h32]; rfl
          have d2 : (((s[i]).toNat : Int) == 10) = false := by rw [h32]; rfl
          rw [if_pos h32] at HSP2
          rw [h32] at HX1
          clear h32
          go_wp2_with fail
          go_round
          case rel => exact ⟨i + 1, _, by go_num, by omega, rfl, by rw [txt_append, txt_append, HX1.out, ← HSP2.out]; simp; rfl, by rw [ByteArray.size_append, ByteArray.size_append, HX2.out]; have : (⟨#[32, 32]⟩ : ByteArray).size = 2 := rfl; omega⟩
          case measure => simp [intOf]; omega
        · have n32 : (s[i]).toNat ≠ 32 := fun e => h32 (UInt8.toNat_inj.1 e)
          have d1 : (((s[i]).toNat : Int) == 32) = false := by simp; omega
          by_cases h10 : s[i] = 10
          · have d2 : (((s[i]).toNat : Int) == 10) = true := by rw [h10]; rfl
            rw [if_neg h32, if_pos h10] at HSP2
            rw [h10] at HX1
            clear h32 h10 n32
            go_wp2_with fail
            go_round
            case rel => exact ⟨i + 1, _, by go_num, by omega, rfl, by rw [txt_append, txt_append, HX1.out, ← HSP2.out]; simp [remark]; rfl, by rw [ByteArray.size_append, ByteArray.size_append, HX2.out]; have : (⟨#[32, 32, 32, 35, 120, 32, 121, 10, 32, 32]⟩ : ByteArray).size = 10 := rfl; omega⟩
            case measure => simp [intOf]; omega
          · have n10 : (s[i]).toNat ≠ 10 := fun e => h10 (UInt8.toNat_inj.1 e)
            have d2 : (((s[i]).toNat : Int) == 10) = false := by simp; omega
            rw [if_neg h32, if_neg h10] at HSP2
            clear h32 h10 n32 n10
            go_wp2_with fail
            go_round
            case rel => exact ⟨i + 1, _, by go_num, by omega, rfl, by rw [txt_append, HX1.out, ← HSP2.out]; simp, by rw [ByteArray.size_append, HX2.out]; omega⟩
            case measure => simp [intOf]; omega
      · have hil : i = s.size := by omega
        have hfin : txt sp = spacedOf (txt s) := by rw [← HSP.out, drop_end (by omega)]; simp [flat]
        have hc1 := cat_ok (a := sp) (b := ⟨#[10]⟩) (by have : (⟨#[10]⟩ : ByteArray).size = 1 := rfl; omega)
        have HF := Lib.hid hfin
        have HL := Lib.hid (spaced_law (t := txt s) (by rw [HSL.out]; omega))
        have HC1 := Lib.hid (comp_any HE.out s)
        clear hfin
        go_wp2_with fail
        refine HC1.out.mono ?_
        rintro e w1 ⟨b1, v1, rfl, a1, n1⟩
        have hlen2 : txt (sp ++ ⟨#[10]⟩) = spacedOf (txt s) ++ [10] := by rw [txt_append, HF.out]
        have hc2 := comp_any (HE.out.below b1) (sp ++ ⟨#[10]⟩)
        rw [hlen2] at hc2
        have HC2 := Lib.hid hc2
        have A1 := Lib.hid a1
        have N1 := Lib.hid n1
        obtain ⟨p1, c1, rfl⟩ := a1.form
        clear hlen2 hc2 a1 n1
        go_wp2_with fail
        refine HC2.out.mono ?_
        rintro e w2 ⟨b2, v2, rfl, a2, n2⟩
        have A2 := Lib.hid a2
        obtain ⟨p2, c2, rfl⟩ := a2.form
        have hl := HL.out
        have a2' := A2.out
        rw [← hl.1] at a2'
        have hcl : (compT (spacedOf (txt s) ++ [10])).1.length = (compT (txt s)).1.length := by rw [← hl.1]
        rw [hcl]
        have HS := Lib.hid (sameActs_eq (A1.out.below b2) a2' N1.out)
        have dE : ((compT (txt s)).2.2 == (compT (spacedOf (txt s) ++ [10])).2.2) = true := beq_iff_eq.2 hl.2.1
        have hz := hl.2.2
        have l2 : Below w.heap.size w w2 := b1.trans (b2.mono b1.size)
        clear a2 n2 a2' hcl hl A1 A2 HL
        generalize (compT (txt s)).1.length = m at *
        generalize (compT (txt s)).2.2 = e1 at *
        generalize (compT (spacedOf (txt s) ++ [10])).2.2 = e2 at *
        generalize (compT (txt s)).2.1 = k1 at *
        generalize (compT (spacedOf (txt s) ++ [10])).2.1 = k2 at *
        by_cases h0 : k1 = 0
        · have z1 : ((k1 : Int) == 0) = true := by simp [h0]
          have z2 : ((k2 : Int) == 0) = true := by simp [hz.1 h0]
          clear h0 hz
          go_wp2_with fail
          refine HS.out.mono ?_
          rintro e w3 ⟨rfl, b3⟩
          have l3 := l2.trans (b3.mono l2.size)
          have HA := Lib.hid (awake_any (HE.out.below l3))
          go_wp2_with fail
          refine HA.out.mono ?_
          rintro e w4 ⟨rfl, b4⟩
          go_wp2_with fail
          go_ret
          exact ⟨rfl, l3.trans (b4.mono l3.size)⟩
        · have z1 : ((k1 : Int) == 0) = false := by simp; omega
          have z2 : ((k2 : Int) == 0) = false := by have := fun h => h0 (hz.2 h); simp; omega
          clear h0 hz
          go_wp2_with fail
          refine HS.out.mono ?_
          rintro e w3 ⟨rfl, b3⟩
          have l3 := l2.trans (b3.mono l2.size)
          have HA := Lib.hid (awake_any (HE.out.below l3))
          go_wp2_with fail
          refine HA.out.mono ?_
          rintro e w4 ⟨rfl, b4⟩
          go_wp2_with fail
          go_ret
          exact ⟨rfl, l3.trans (b4.mono l3.size)⟩
end Go.Proofs.YtddnmocoaahlfaaGreatDoor
