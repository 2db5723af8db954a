/-
  strconv.Atoi at rows of digits; the product; the lines of the grammar as the program lays them. Conditions: the bounds that each states.
-/
import Derived.Test.YtddnmocoaahlfaaGreatDoorShelf
import Derived.Test.YtddnmocoaahlfaaGreatDoorExp
import Derived.Test.YtddnmocoaahlfaaGreatDoorTok
import Derived.Lib.AtoiAllCases
import Derived.Lib.SmallJoins
set_option linter.unusedVariables false
set_option linter.unusedSimpArgs false

namespace Go.Proofs.YtddnmocoaahlfaaGreatDoor
open Go.RowKit
/-- The variable of the range error holds an error or none. -/
def ErrR (w : World) : Prop := ∃ ev, w.cell? ⟨6, 0, none⟩ = some ev ∧ (ev = .nilIface ∨ ∃ te pe, ev = .iface te pe)
theorem ErrR.stays {M : Nat → Prop} {w w' : World} (h : ErrR w) (b : Stays M w w') (hm : ¬ M 6) : ErrR w' := by
  obtain ⟨ev, h1, h2⟩ := h
  exact ⟨ev, (World.cell?_of_block (a := ⟨6, 0, none⟩) (b.block 6 (World.block_lt_of_cell? w _ h1) hm)).trans h1, h2⟩
theorem ErrR.below {w w' : World} (h : ErrR w) (b : Below w.heap.size w w') : ErrR w' := h.stays (M := fun _ => False) (.of b) (fun h => h)
theorem ErrR.ne {w : World} {R : Nat} {s : ByteArray} {at_ op : Nat} (h : ErrR w) (hp : Par w R s at_ op) : R ≠ 6 := by
  rintro rfl
  obtain ⟨ev, h1, h2⟩ := h
  rw [hp.facts.1] at h1
  injection h1 with h1
  subst h1
  rcases h2 with h2 | ⟨_, _, h2⟩ <;> cases h2
theorem numFrom_le : ∀ (l : List UInt8) (n : Nat), n ≤ l.foldl (fun n c => 10 * n + (c.toNat - 48)) n
  | [], n => Nat.le_refl _
  | c :: l, n => by
    rw [List.foldl_cons]
    exact Nat.le_trans (by omega) (numFrom_le l _)
theorem parse_digits : ∀ (l : List UInt8) (n : Nat), n < 18446744073709551616 → (∀ c ∈ l, isDig c = true) → Go.Lib.parseUint10 n l = if l.foldl (fun n c => 10 * n + (c.toNat - 48)) n < 18446744073709551616 then .ok (l.foldl (fun n c => 10 * n + (c.toNat - 48)) n) else .range
  | [], n, hn, _ => by rw [Go.Lib.parseUint10, List.foldl_nil, if_pos hn]
  | c :: l, n, hn, h => by
    have hc : isDig c = true := h c (by simp)
    have hc' : 48 ≤ c.toNat ∧ c.toNat ≤ 57 := by
      unfold isDig at hc
      simp only [Bool.and_eq_true, decide_eq_true_eq, UInt8.le_iff_toNat_le] at hc
      exact hc
    rw [Go.Lib.parseUint10, if_pos hc', List.foldl_cons]
    have hle := numFrom_le l (10 * n + (c.toNat - 48))
    by_cases h1 : 1844674407370955162 ≤ n
    · rw [if_pos h1, if_neg (by omega)]
    · rw [if_neg h1]
      by_cases h2 : 18446744073709551616 ≤ n * 10 + (c.toNat - 48)
      · rw [if_pos h2, if_neg (by omega)]
      · rw [if_neg h2, show n * 10 + (c.toNat - 48) = 10 * n + (c.toNat - 48) by omega]
        exact parse_digits l _ (by omega) (fun d hd => h d (by simp [hd]))
theorem atoi_digits {l : List UInt8} (hne : l ≠ []) (h : ∀ c ∈ l, isDig c = true) : Go.Lib.atoiAll l = if numOf l < 9223372036854775808 then .ok (numOf l : Int) else .range := by
  obtain ⟨c, r, rfl⟩ := List.exists_cons_of_ne_nil hne
  have hc : isDig c = true := h c (by simp)
  have hc' : 48 ≤ c.toNat ∧ c.toNat ≤ 57 := by
    unfold isDig at hc
    simp only [Bool.and_eq_true, decide_eq_true_eq, UInt8.le_iff_toNat_le] at hc
    exact hc
  rw [Go.Lib.atoiAll_plain c r (by omega) (by omega)]
  unfold Go.Lib.parseMag
  rw [if_neg (by simp), parse_digits _ 0 (by omega) h]
  have e : (c :: r).foldl (fun n c => 10 * n + (c.toNat - 48)) 0 = numOf (c :: r) := rfl
  rw [e]
  by_cases h1 : numOf (c :: r) < 9223372036854775808
  · rw [if_pos (by omega), if_pos h1]
    simp only [Go.Lib.signless]
    rw [if_neg (by omega)]
  · rw [if_neg h1]
    by_cases h2 : numOf (c :: r) < 18446744073709551616
    · rw [if_pos h2]
      simp only [Go.Lib.signless]
      rw [if_pos (by omega)]
    · rw [if_neg h2]; rfl
theorem atoi_ok {t : ByteArray} (hs : t.size ≤ 65536) {n : Nat} (hne : txt t ≠ []) (hd : ∀ c ∈ txt t, isDig c = true) (hn : numOf (txt t) = n) (hlt : n < 9223372036854775808) (w : World) :
    Calls Tryz.prog 122 #[.string t] w (RetV w (.tuple #[.int .i64 n, .nilIface])) := by
  refine (Tryz.strconv_Atoi_ok t (by omega) n (by rw [atoi_digits hne hd, hn, if_pos hlt]) w).mono ?_
  rintro e w' ⟨rfl, rfl | ⟨t', rfl⟩⟩
  · exact ⟨rfl, Below.refl _ _⟩
  · exact ⟨rfl, Go.Joins.below_bytesWorld _ _ _ _ (Nat.le_refl _)⟩
theorem atoi_over {t : ByteArray} (hs : t.size ≤ 65536) (hne : txt t ≠ []) (hd : ∀ c ∈ txt t, isDig c = true) (hlt : ¬ numOf (txt t) < 9223372036854775808) {w : World} (he : ErrR w) :
    Calls Tryz.prog 122 #[.string t] w (fun e w' => ∃ (v : Int) (N : Nat), e = .returned (.tuple #[.int .i64 v, .iface 229 (.pointer (some ⟨N, 0, none⟩))]) ∧ Below w.heap.size w w') := by
  obtain ⟨ev, h1, h2⟩ := he
  refine (Tryz.strconv_Atoi_range t (by omega) (by rw [atoi_digits hne hd, if_neg hlt]) ev w h1 h2).mono ?_
  rintro e w' ⟨N, rfl, _, _, hb⟩
  exact ⟨_, N, rfl, hb⟩
set_option maxHeartbeats 1000000 in
theorem mul_any (a b : Int) (w : World) (ha : Within a) (hb : Within b) : Calls Tryz.prog 144 #[.int .u8 42, .int .i64 a, .int .i64 b] w (RetX w (small (a * b))) := by
  have hab : (a * b).natAbs = a.natAbs * b.natAbs := Int.natAbs_mul a b
  have h1 : a.natAbs < 18446744073709551616 := by unfold Within maxValue at ha; omega
  have h2 : b.natAbs < 18446744073709551616 := by unfold Within maxValue at hb; omega
  obtain ⟨p, hp⟩ : ∃ p, p = a.natAbs * b.natAbs := ⟨_, rfl⟩
  have HM := Lib.hid (fun w => Tryz.bits_Mul64 a.natAbs b.natAbs h1 h2 w)
  rw [← hp] at HM hab
  have HA := Lib.hid (fun w => size_any a w ha)
  have HB := Lib.hid (fun w => size_any b w hb)
  by_cases hbig : 9007199254740992 < p
  · have hs : small (a * b) = .error 101 := by
      unfold small maxValue
      rw [if_pos (by omega)]
    rw [hs]
    clear hab hp
    by_cases hhi : p < 18446744073709551616
    · have e1 : p / 18446744073709551616 = 0 := Nat.div_eq_of_lt hhi
      have e2 : p % 18446744073709551616 = p := Nat.mod_eq_of_lt hhi
      rw [e1, e2] at HM
      have hgt : (9007199254740992 : Int) < (p : Int) := by omega
      go_enter Tryz.func144, Tryz.ntmps144
      go_wp2_with (first | (go_at_call 166; (with_reducible refine (HA.out _).mono ?_); rintro e w' ⟨rfl, rfl⟩) | (go_at_call 166; (with_reducible refine (HB.out _).mono ?_); rintro e w' ⟨rfl, rfl⟩) | (go_at_call 165; (with_reducible refine (HM.out _).mono ?_); rintro e w' ⟨rfl, rfl⟩) | (go_at_call 105; refine (fail_any 101 _).mono ?_; rintro e w' ⟨rfl, rfl⟩))
      exact ⟨rfl, Below.refl _ _, rfl⟩
    · have hgt : (0 : Int) < ((p / 18446744073709551616 : Nat) : Int) := by
        have : 0 < p / 18446744073709551616 := Nat.div_pos (by omega) (by omega)
        omega
      obtain ⟨q, hq⟩ : ∃ q, q = p / 18446744073709551616 := ⟨_, rfl⟩
      obtain ⟨q2, hq2⟩ : ∃ q, q = p % 18446744073709551616 := ⟨_, rfl⟩
      rw [← hq, ← hq2] at HM
      rw [← hq] at hgt
      clear hq hq2 hhi hbig
      go_enter Tryz.func144, Tryz.ntmps144
      go_wp2_with (first | (go_at_call 166; (with_reducible refine (HA.out _).mono ?_); rintro e w' ⟨rfl, rfl⟩) | (go_at_call 166; (with_reducible refine (HB.out _).mono ?_); rintro e w' ⟨rfl, rfl⟩) | (go_at_call 165; (with_reducible refine (HM.out _).mono ?_); rintro e w' ⟨rfl, rfl⟩) | (go_at_call 105; refine (fail_any 101 _).mono ?_; rintro e w' ⟨rfl, rfl⟩))
      exact ⟨rfl, Below.refl _ _, rfl⟩
  · have hs : small (a * b) = .ok (a * b) := small_within (by unfold Within maxValue; omega)
    rw [hs]
    have e1 : p / 18446744073709551616 = 0 := Nat.div_eq_of_lt (by omega)
    have e2 : p % 18446744073709551616 = p := Nat.mod_eq_of_lt (by omega)
    rw [e1, e2] at HM
    have hgt : ¬ (9007199254740992 : Int) < (p : Int) := by omega
    have hw1 : -9223372036854775808 ≤ a * b := by omega
    have hw2 : a * b ≤ 9223372036854775807 := by omega
    clear hab hp hbig
    go_enter Tryz.func144, Tryz.ntmps144
    go_wp2_with (first | (go_at_call 166; (with_reducible refine (HA.out _).mono ?_); rintro e w' ⟨rfl, rfl⟩) | (go_at_call 166; (with_reducible refine (HB.out _).mono ?_); rintro e w' ⟨rfl, rfl⟩) | (go_at_call 165; (with_reducible refine (HM.out _).mono ?_); rintro e w' ⟨rfl, rfl⟩))
    go_ret
    exact ⟨Below.refl _ _, rfl⟩
theorem product_any (op : UInt8) (a b : Int) (w : World) (ho : op = 42 ∨ op = 47 ∨ op = 37) (ha : Within a) (hb : Within b) : Calls Tryz.prog 144 #[.int .u8 op.toNat, .int .i64 a, .int .i64 b] w (RetX w (applyOp op a b)) := by
  rcases ho with rfl | rfl | rfl
  · exact mul_any a b w ha hb
  · have e : applyOp 47 a b = if b = 0 then .error 101 else .ok (a.tdiv b) := rfl
    rw [e]
    unfold Within maxValue at ha hb
    by_cases h0 : b = 0
    · rw [if_pos h0]
      subst h0
      go_enter Tryz.func144, Tryz.ntmps144
      go_wp2_with (go_at_call 105; refine (fail_any 101 _).mono ?_; rintro e w' ⟨rfl, rfl⟩)
      exact ⟨rfl, Below.refl _ _, rfl⟩
    · rw [if_neg h0]
      go_enter Tryz.func144, Tryz.ntmps144
      go_wp2_with fail
      go_ret
      refine ⟨Below.refl _ _, ?_⟩
      have hq := tdiv_within (b := b) (show Within a from ha)
      unfold Within maxValue at hq
      have hwr : wrap64 (a.tdiv b) = a.tdiv b := by unfold wrap64; omega
      rw [hwr]
      rfl
  · have e : applyOp 37 a b = if b = 0 then .error 101 else .ok (a.tmod b) := rfl
    rw [e]
    unfold Within maxValue at ha hb
    by_cases h0 : b = 0
    · rw [if_pos h0]
      subst h0
      go_enter Tryz.func144, Tryz.ntmps144
      go_wp2_with (go_at_call 105; refine (fail_any 101 _).mono ?_; rintro e w' ⟨rfl, rfl⟩)
      exact ⟨rfl, Below.refl _ _, rfl⟩
    · rw [if_neg h0]
      go_enter Tryz.func144, Tryz.ntmps144
      go_wp2_with fail
      go_ret
      exact ⟨Below.refl _ _, rfl⟩
/-- The lines of the grammar, as the program lays them. -/
def levCells : Array Value := #[.string ⟨#[124]⟩, .func (.func 140) #[] #[], .bool true, .string ⟨#[38]⟩, .func (.func 141) #[] #[], .bool true, .string ⟨#[61, 60, 62]⟩, .func (.func 142) #[] #[], .bool false, .string ⟨#[43, 45]⟩, .func (.func 143) #[] #[], .bool true, .string ⟨#[42, 47, 37]⟩, .func (.func 144) #[] #[], .bool true]
theorem levels_any (w : World) : Calls Tryz.prog 112 #[] w (fun e w' => e = .returned (.slice (some ⟨w.heap.size, 0, none⟩) 5 5) ∧ w' = w.alloc (.cells levCells 206)) := by
  go_enter Tryz.func112, Tryz.ntmps112
  go_wp2_with fail
  go_ret
  exact ⟨rfl, rfl⟩
/-- The lines of the grammar lie in block L. -/
def Lev (w : World) (L : Nat) : Prop := Blk w L levCells 206
theorem enters140 (args : Array Value) (w : World) : (callFunc 140 args).run Tryz.prog w = .ok (.enter 140 args) w := enters_of Tryz.func140 (by kernel_rfl) rfl args w
theorem enters141 (args : Array Value) (w : World) : (callFunc 141 args).run Tryz.prog w = .ok (.enter 141 args) w := enters_of Tryz.func141 (by kernel_rfl) rfl args w
theorem enters142 (args : Array Value) (w : World) : (callFunc 142 args).run Tryz.prog w = .ok (.enter 142 args) w := enters_of Tryz.func142 (by kernel_rfl) rfl args w
theorem enters143 (args : Array Value) (w : World) : (callFunc 143 args).run Tryz.prog w = .ok (.enter 143 args) w := enters_of Tryz.func143 (by kernel_rfl) rfl args w
theorem enters144 (args : Array Value) (w : World) : (callFunc 144 args).run Tryz.prog w = .ok (.enter 144 args) w := enters_of Tryz.func144 (by kernel_rfl) rfl args w
/-- A line of the grammar: its operators, its function, whether there may be several. -/
structure LevAt (i : Nat) (ops : ByteArray) (g : FuncId) (sv : Bool) : Prop where
  c0 : levCells[3 * i]? = some (.string ops)
  c1 : levCells[3 * i + 1]? = some (.func (.func g) #[] #[])
  c2 : levCells[3 * i + 2]? = some (.bool sv)
  gr : grammar.drop i = (txt ops, sv) :: grammar.drop (i + 1)
  op : ∀ c, hasB ops c = true → c ≠ 0 ∧ OpF g c
  small : ops.size ≤ 65536
theorem levAt : ∀ i, i < 5 → ∃ ops g sv, LevAt i ops g sv
  | 0, _ => ⟨⟨#[124]⟩, 140, true, rfl, rfl, rfl, rfl, fun c h => by
      have : c = 124 := by simpa [hasB] using h
      subst this
      exact ⟨by decide, enters140, fun a b W _ _ => or_any 124 a b W rfl⟩, by decide⟩
  | 1, _ => ⟨⟨#[38]⟩, 141, true, rfl, rfl, rfl, rfl, fun c h => by
      have : c = 38 := by simpa [hasB] using h
      subst this
      exact ⟨by decide, enters141, fun a b W _ _ => and_any 38 a b W rfl⟩, by decide⟩
  | 2, _ => ⟨⟨#[61, 60, 62]⟩, 142, false, rfl, rfl, rfl, rfl, fun c h => by
      have : c = 61 ∨ c = 60 ∨ c = 62 := by simpa [hasB] using h
      exact ⟨by rcases this with rfl | rfl | rfl <;> decide, enters142, fun a b W _ _ => compare_any c a b W this⟩, by decide⟩
  | 3, _ => ⟨⟨#[43, 45]⟩, 143, true, rfl, rfl, rfl, rfl, fun c h => by
      have : c = 43 ∨ c = 45 := by simpa [hasB] using h
      exact ⟨by rcases this with rfl | rfl <;> decide, enters143, fun a b W ha hb => sum_any c a b W this ha hb⟩, by decide⟩
  | 4, _ => ⟨⟨#[42, 47, 37]⟩, 144, true, rfl, rfl, rfl, rfl, fun c h => by
      have : c = 42 ∨ c = 47 ∨ c = 37 := by simpa [hasB] using h
      exact ⟨by rcases this with rfl | rfl | rfl <;> decide, enters144, fun a b W ha hb => product_any c a b W this ha hb⟩, by decide⟩
  | i + 5, h => by omega
end Go.Proofs.YtddnmocoaahlfaaGreatDoor
