/-
  The contracts of the program's Pow and of the specification's Pow. Condition: numbers of at most 2^14 bits. The contract of the specification's Pow. Condition: numbers of at most 2^14 bits. The walk of the law NatPowers. No condition.
-/
import Derived.Test.YtppbhjhbaknidaaZj
set_option linter.unusedVariables false
set_option linter.unusedSimpArgs false

/-
  The contracts of the program's Pow and of the specification's Pow. Condition: numbers of at most 2^14 bits.
-/
set_option linter.unusedVariables false
set_option linter.unusedSimpArgs false
namespace Go.Proofs.Ytppbhjhbaknidaa
open Go.RowKit

theorem pow_big {a i n : Nat} (ha : 2 ≤ a) (h : ¬ a ^ i < P2 16384) (hi : i ≤ n) : fitE (a ^ n) = 3 :=
  if_neg fun hh => h (Nat.lt_of_le_of_lt (Nat.pow_le_pow_right (by omega) hi) hh)
theorem pow_huge {a n : Nat} (ha : 2 ≤ a) (h : 16384 < n) : fitE (a ^ n) = 3 := by
  refine if_neg fun hh => ?_
  have h1 : P2 n ≤ a ^ n := Nat.pow_le_pow_left ha n
  have h2 := P2_mono (Nat.le_of_lt h)
  omega
theorem pow_one_lt {a n : Nat} (ha : a < 2) (hn : n ≠ 0) : a ^ n = a := by
  match a, ha with
  | 0, _ => exact Nat.zero_pow (by omega)
  | 1, _ => exact Nat.one_pow n

structure PowSt (a n t s : Nat) : Prop where
  next0 : n / 2 ^ s % 2 = 0 → a ^ (n / 2 ^ (s + 1)) * a ^ (n / 2 ^ (s + 1)) = a ^ (n / 2 ^ s)
  next1 : n / 2 ^ s % 2 ≠ 0 → a ^ (n / 2 ^ (s + 1)) * a ^ (n / 2 ^ (s + 1)) * a = a ^ (n / 2 ^ s)
theorem powSt (a n t s : Nat) : PowSt a n t s := by
  constructor
  · intro h
    rw [← Nat.pow_add]
    congr 1
    have := pow_even (a := a) h
    omega
  · intro h
    rw [← Nat.pow_add, ← Nat.pow_succ]
    congr 1
    have := pow_odd (e := n) (i := s) (by omega)
    omega

theorem and_one64 (a : Nat) (ha : a < 9223372036854775808) : bits .and .i64 (a : Int) 1 = ((a % 2 : Nat) : Int) := by
  have e : ∀ b : Nat, b < 9223372036854775808 → (BitVec.ofInt 64 (b : Int)).toNat = b := fun b hb => by
    rw [BitVec.ofInt_natCast, BitVec.toNat_ofNat]; exact Nat.mod_eq_of_lt (by omega)
  have hx : a &&& 1 = a % 2 := Nat.and_one_is_mod a
  show IntKind.i64.wrap ((BitVec.ofInt 64 (a : Int) &&& BitVec.ofInt 64 ((1 : Nat) : Int)).toNat : Int) = _
  rw [BitVec.toNat_and, e a ha, e 1 (by omega), hx]
  exact IntWalk.i64_in _ (by omega)

set_option maxHeartbeats 1000000 in
set_option maxRecDepth 100000 in
theorem Pow_any {w : World} {v : Value} {a : Nat} (ha : IsNat w v a) (n : Nat) (hn : n < 9223372036854775808) (hl : a < P2 16384) :
    Calls Try.prog 82 #[v, .int .i64 n] w (RetE w (a ^ n) (fitE (a ^ n))) := by
  obtain ⟨ao, k, cap, rfl, ia⟩ := ha.slice
  obtain ⟨hB, ka, kr⟩ := pro2 w (.slice ao k cap) (.slice none 0 0)
  have hd0 : decide ((n : Int) < 0) = false := decide_eq_false (by omega)
  have HL := Lib.hid hl
  clear hl
  have ia0 := ia
  replace ia := ia.below hB
  by_cases h0 : n = 0
  · subst h0
    rw [Nat.pow_zero, show fitE 1 = 0 from if_pos (by exact lt_P2_mono (show 1 < P2 1 by unfold P2; omega) (by omega))]
    go_enter Try.func82, Try.ntmps82
    go_wp2_with fail
    refine (words_any 1 _ (by omega) (by omega)).mono ?_
    rintro e w1 ⟨v1, rfl, i1, b⟩
    rw [show (1 : Int).toNat = 1 from rfl] at i1
    replace hB := nextB hB b
    replace kr := kr.below b
    obtain ⟨ao3, k3, cap3, rfl⟩ := i1.slice
    have c1 := kr.cell
    have f1 := kr.free
    go_wp2
    refine bodyPost_ret (v := .tuple #[.agg #[.slice ao3 k3 cap3], .int .i64 (0 : Nat)]) (by simp [results, Try.results82, go_sem, c1]) rfl ⟨_, rfl, ⟨_, rfl, i1.setBx kr NoInt.one _⟩, hB.setCell (by simp) _⟩
  · have hn0 : ((n : Int) == 0) = false := by rw [beq_eq_false_iff_ne]; omega
    by_cases h1 : a < 2
    · rw [pow_one_lt h1 h0, show fitE a = 0 from if_pos HL.out]
      have hbl : blen a ≤ 1 := blen_le.2 (by unfold P2; omega)
      have hd1 : decide ((blen a : Int) < 2) = true := decide_eq_true (by omega)
      go_enter Try.func82, Try.ntmps82
      go_wp2_with fail
      refine (bitLen_any ia 16384 (by omega) HL.out).mono ?_
      rintro e wq ⟨rfl, hw⟩
      subst hw
      have c1 := kr.cell
      have f1 := kr.free
      go_wp2
      refine bodyPost_ret (v := .tuple #[.agg #[.slice ao k cap], .int .i64 (0 : Nat)]) (by simp [results, Try.results82, go_sem, c1]) rfl ⟨_, rfl, ⟨_, rfl, ia0.below (pro2 w (.slice ao k cap) (.slice ao k cap)).1⟩, (pro2 w (.slice ao k cap) (.slice ao k cap)).1⟩
    · have hbl : ¬ blen a ≤ 1 := fun h => by have := blen_le.1 h; unfold P2 at this; omega
      have hd1 : decide ((blen a : Int) < 2) = false := decide_eq_false (by omega)
      have ha2 : 2 ≤ a := by omega
      by_cases h2 : 16384 < n
      · rw [pow_huge ha2 h2]
        have hd2 : decide ((16384 : Int) < (n : Int)) = true := decide_eq_true (by omega)
        go_enter Try.func82, Try.ntmps82
        go_wp2_with fail
        refine (bitLen_any ia 16384 (by omega) HL.out).mono ?_
        rintro e wq ⟨rfl, hw⟩
        subst hw
        have c1 := kr.cell
        have f1 := kr.free
        go_wp2
        refine bodyPost_ret (v := .tuple #[.agg #[.slice none 0 0], .int .i64 (3 : Nat)]) (by simp [results, Try.results82, go_sem, c1]) rfl ⟨_, rfl, IsNat.zero _, hB⟩
      · have hd2 : decide ((16384 : Int) < (n : Int)) = false := decide_eq_false (by omega)
        have hn2 : n ≤ 16384 := by omega
        have HA2 := Lib.hid ha2
        have HN2 := Lib.hid hn2
        have i0 : n / 2 ^ 32 = 0 := Nat.div_eq_of_lt (by omega)
        have I0 := Lib.hid i0
        clear h1 h2 hbl i0 ha2
        go_enter Try.func82, Try.ntmps82
        go_wp2_with fail
        refine (bitLen_any ia 16384 (by omega) HL.out).mono ?_
        rintro e wq ⟨rfl, hw⟩
        subst hw
        go_wp2_with fail
        refine (words_any 1 _ (by omega) (by omega)).mono ?_
        rintro e w1 ⟨v1, rfl, i1, b⟩
        rw [show (1 : Int).toNat = 1 from rfl] at i1
        replace hB := nextB hB b
        replace kr := kr.below b
        replace ka := ka.below b
        replace ia := ia.below b
        clear b hd1 hd0 hn0
        obtain ⟨wo, hwo⟩ : ∃ wo : World, wo = w1 := ⟨_, rfl⟩
        rw [← hwo] at hB kr ka ia i1 ⊢
        clear hwo
        go_wp2
        go_loopw [6, 7, 28] (fun v _ i wr => ∃ t : Nat, t ≤ 32 ∧ i = .int .i64 t ∧ IsN wr v (a ^ (n / 2 ^ (32 - t))) ∧ Hid (a ^ (n / 2 ^ (32 - t)) < P2 16384) ∧ Below wo.heap.size wo wr) (fun _ _ i _ => 32 - (intOf i).toNat)
        case atStart => exact ⟨0, Nat.zero_le _, rfl, by rw [Nat.sub_zero, I0.out]; exact i1, by rw [Nat.sub_zero, I0.out]; exact Lib.hid (by exact lt_P2_mono (show 1 < P2 1 by unfold P2; omega) (by omega)), Below.refl _ _⟩
        case round =>
          obtain ⟨t, ht, rfl, iv, hv, hb⟩ := hrel
          clear i1
          replace hB := nextB hB hb
          by_cases hlt : t < 32
          · obtain ⟨s, hs⟩ : ∃ s, s + t = 31 := ⟨31 - t, by omega⟩
            have hts : (31 : Int) - (t : Int) = (s : Int) := by omega
            rw [show 32 - t = s + 1 by omega] at iv hv
            have HP0 := Lib.hid (powSt a n t s).next0
            have HP1 := Lib.hid (powSt a n t s).next1
            have HLe := Lib.hid (show n / 2 ^ s ≤ n from Nat.div_le_self _ _)
            have HQ := Lib.hid (show a ^ (n / 2 ^ (s + 1)) * a ^ (n / 2 ^ (s + 1)) < P2 32768 from mul_lt_P2 hv.out hv.out)
            generalize a ^ (n / 2 ^ (s + 1)) = z at *
            replace kr := kr.below hb
            replace ka := ka.below hb
            replace ia := ia.below hb
            go_wp2_with fail
            refine (mul_any iv iv 16384 (by omega) hv.out hv.out).mono ?_
            rintro e w2 ⟨v2, rfl, i2, b⟩
            replace kr := kr.below b
            replace ka := ka.below b
            replace ia := ia.below b
            replace hb := nextB hb b
            replace hB := nextB hB b
            clear b iv
            have c1 := ka.cell
            by_cases hd : n / 2 ^ s % 2 = 0
            · have e4 := and_one64 (n / 2 ^ s) (Nat.lt_of_le_of_lt HLe.out (by omega))
              rw [hd, show ((n / 2 ^ s : Nat) : Int) = (n : Int) / 2 ^ s by simp] at e4
              have e5 := HP0.out hd
              rw [e5] at i2 HQ
              have HLL := Lib.hid (blen_le.2 HQ.out)
              clear e5 HP0 HP1 hd
              go_wp2_with fail
              refine (bitLen_any i2 32768 (by omega) HQ.out).mono ?_
              rintro e wq ⟨rfl, hw⟩
              subst hw
              by_cases hg : 16384 < blen (a ^ (n / 2 ^ s))
              · have hdg : decide ((16384 : Int) < (blen (a ^ (n / 2 ^ s)) : Int)) = true := decide_eq_true (by omega)
                have hf := pow_big HA2.out (fun hh => by have := blen_le.2 hh; omega) HLe.out
                have c1 := kr.cell
                have f1 := kr.free
                go_wp2
                refine bodyPost_ret (v := .tuple #[.agg #[.slice none 0 0], .int .i64 (3 : Nat)]) (by simp [results, Try.results82, go_sem, c1]) rfl ⟨_, by rw [hf], by rw [hf, if_neg (by omega)]; exact IsNat.zero _, hB.setCell (by simp) _⟩
              · have hdg : decide ((16384 : Int) < (blen (a ^ (n / 2 ^ s)) : Int)) = false := decide_eq_false (by omega)
                have hl2 : a ^ (n / 2 ^ s) < P2 16384 := blen_le.1 (by omega)
                have HL2 := Lib.hid hl2
                clear hl2 hg
                go_wp2
                go_roundw
                case rel => exact ⟨t + 1, by omega, by go_num, by rw [show 32 - (t + 1) = s by omega]; assumption, by rw [show 32 - (t + 1) = s by omega]; exact HL2, hb⟩
                case measure => simp [intOf]; omega
            · have e4 := and_one64 (n / 2 ^ s) (Nat.lt_of_le_of_lt HLe.out (by omega))
              rw [show n / 2 ^ s % 2 = 1 by omega, show ((n / 2 ^ s : Nat) : Int) = (n : Int) / 2 ^ s by simp] at e4
              have e5 := HP1.out hd
              clear hd HP0 HP1
              go_wp2_with fail
              refine (mul_any i2 ia 32768 (by omega) HQ.out (lt_P2_mono HL.out (by omega))).mono ?_
              rintro e w3 ⟨v3, rfl, i3, b⟩
              replace kr := kr.below b
              replace ka := ka.below b
              replace ia := ia.below b
              replace hb := nextB hb b
              replace hB := nextB hB b
              clear b i2 c1
              have HQ2 := Lib.hid (mul_lt_P2 HQ.out HL.out)
              rw [e5] at i3 HQ2
              clear e5 e4
              go_wp2_with fail
              refine (bitLen_any i3 (32768 + 16384) (by omega) HQ2.out).mono ?_
              rintro e wq ⟨rfl, hw⟩
              subst hw
              by_cases hg : 16384 < blen (a ^ (n / 2 ^ s))
              · have hdg : decide ((16384 : Int) < (blen (a ^ (n / 2 ^ s)) : Int)) = true := decide_eq_true (by omega)
                have hf := pow_big HA2.out (fun hh => by have := blen_le.2 hh; omega) HLe.out
                have c1 := kr.cell
                have f1 := kr.free
                go_wp2
                refine bodyPost_ret (v := .tuple #[.agg #[.slice none 0 0], .int .i64 (3 : Nat)]) (by simp [results, Try.results82, go_sem, c1]) rfl ⟨_, by rw [hf], by rw [hf, if_neg (by omega)]; exact IsNat.zero _, hB.setCell (by simp) _⟩
              · have hdg : decide ((16384 : Int) < (blen (a ^ (n / 2 ^ s)) : Int)) = false := decide_eq_false (by omega)
                have hl2 : a ^ (n / 2 ^ s) < P2 16384 := blen_le.1 (by omega)
                have HL2 := Lib.hid hl2
                clear hl2 hg
                go_wp2
                go_roundw
                case rel => exact ⟨t + 1, by omega, by go_num, by rw [show 32 - (t + 1) = s by omega]; assumption, by rw [show 32 - (t + 1) = s by omega]; exact HL2, hb⟩
                case measure => simp [intOf]; omega
          · obtain rfl : t = 32 := by omega
            rw [show 32 - 32 = 0 from rfl, Nat.pow_zero, Nat.div_one] at iv hv
            obtain ⟨ao3, k3, cap3, rfl⟩ := iv.slice
            have hf : fitE (a ^ n) = 0 := if_pos hv.out
            replace kr := kr.below hb
            have c1 := kr.cell
            have f1 := kr.free
            go_wp2
            refine bodyPost_ret (v := .tuple #[.agg #[.slice ao3 k3 cap3], .int .i64 (0 : Nat)]) (by simp [results, Try.results82, go_sem, c1]) rfl ⟨_, by rw [hf], ⟨_, rfl, by rw [hf, if_pos rfl]; exact iv.setBx kr NoInt.one _⟩, hB.setCell (by simp) _⟩

end Go.Proofs.Ytppbhjhbaknidaa

/-
  The contract of the specification's Pow. Condition: numbers of at most 2^14 bits.
-/
set_option linter.unusedVariables false
set_option linter.unusedSimpArgs false
namespace Go.Proofs.Ytppbhjhbaknidaa
open Go.RowKit

set_option maxHeartbeats 400000 in
theorem Pow_neg {w : World} {v : Value} {a : Nat} (ha : IsNat w v a) (n : Int) (hn : n < 0) :
    Calls Try.prog 82 #[v, .int .i64 n] w (RetE w 0 2) := by
  obtain ⟨ao, k, cap, rfl, ia⟩ := ha.slice
  obtain ⟨hB, ka, kr⟩ := pro2 w (.slice ao k cap) (.slice none 0 0)
  go_enter Try.func82, Try.ntmps82
  go_wp2
  refine bodyPost_ret (v := .tuple #[.agg #[.slice none 0 0], .int .i64 (2 : Nat)]) (by simp [results, Try.results82, go_sem]) rfl ⟨_, rfl, IsNat.zero _, hB⟩

/-- A number of the specification's and whether it fits. -/
def RetRB (w : World) (n : Nat) (b : Bool) (e : Ending) (w' : World) : Prop := ∃ v, e = .returned (.tuple #[v, .bool b]) ∧ IsR w' v (if b = true then n else 0) ∧ Below w.heap.size w w'
theorem pow_nofit {a i n : Nat} (ha : 2 ≤ a) (h : ¬ a ^ i < P2 16384) (hi : i ≤ n) : ¬ a ^ n < P2 16384 := fun hh => h (Nat.lt_of_le_of_lt (Nat.pow_le_pow_right (by omega) hi) hh)

set_option maxHeartbeats 1000000 in
set_option maxRecDepth 100000 in
theorem powR_any {w : World} {v : Value} {a : Nat} (ia : IsR w v a) (n : Nat) (hn : n < 9223372036854775808) (hl : a < P2 16384) :
    Calls Try.prog 83 #[v, .int .i64 n] w (RetRB w (a ^ n) (decide (a ^ n < P2 16384))) := by
  have HL := Lib.hid hl
  have H1 := Lib.hid (show 1 < P2 16384 by exact lt_P2_mono (show 1 < P2 1 by unfold P2; omega) (by omega))
  clear hl
  by_cases h0 : n = 0
  · subst h0
    rw [Nat.pow_zero, decide_eq_true H1.out]
    go_enter Try.func83, Try.ntmps83
    go_wp2_with fail
    refine (of_any 1 (by omega) _).mono ?_
    rintro e w1 ⟨v1, rfl, i1, b⟩
    go_wp2
    refine bodyPost_ret (v := .tuple #[v1, .bool true]) (by simp [results, Try.results83, go_sem]) rfl ⟨_, rfl, i1, b⟩
  · have hn0 : ((n : Int) == 0) = false := by rw [beq_eq_false_iff_ne]; omega
    by_cases h1 : a = 1
    · subst h1
      rw [Nat.one_pow, decide_eq_true H1.out]
      go_enter Try.func83, Try.ntmps83
      go_wp2_with fail
      refine (of_any 1 (by omega) _).mono ?_
      rintro e w1 ⟨v1, rfl, i1, hB⟩
      replace ia := ia.below hB
      go_wp2_with fail
      refine (cmpR_any ia i1).mono ?_
      rintro e w2 ⟨rfl, b⟩
      rw [show cmpI 1 1 = 0 from rfl]
      replace hB := nextB hB b
      clear i1 b
      go_wp2_with fail
      refine (of_any 1 (by omega) _).mono ?_
      rintro e w3 ⟨v3, rfl, i3, b⟩
      replace hB := nextB hB b
      go_wp2
      refine bodyPost_ret (v := .tuple #[v3, .bool true]) (by simp [results, Try.results83, go_sem]) rfl ⟨_, rfl, i3, hB⟩
    · have hc1 : ((cmpI a 1 : Int) == 0) = false := by
        rw [beq_eq_false_iff_ne]
        unfold cmpI
        split
        · omega
        · split
          · omega
          · omega
      by_cases h2 : a = 0
      · subst h2
        rw [Nat.zero_pow (by omega), decide_eq_true (Nat.lt_trans (Nat.zero_lt_one) H1.out)]
        obtain ⟨ao, k, cap, rfl, hk, -⟩ := ia.slice
        obtain rfl := hk.2 rfl
        go_enter Try.func83, Try.ntmps83
        go_wp2_with fail
        refine (of_any 1 (by omega) _).mono ?_
        rintro e w1 ⟨v1, rfl, i1, hB⟩
        replace ia := ia.below hB
        go_wp2_with fail
        refine (cmpR_any ia i1).mono ?_
        rintro e w2 ⟨rfl, b⟩
        replace hB := nextB hB b
        go_wp2
        refine bodyPost_ret (v := .tuple #[.slice none 0 0, .bool true]) (by simp [results, Try.results83, go_sem]) rfl ⟨_, rfl, IsR.zero _, hB⟩
      · obtain ⟨ao, k, cap, rfl, hk, -⟩ := ia.slice
        have hk0 : ((k : Int) == 0) = false := by rw [beq_eq_false_iff_ne]; intro hh; exact h2 (hk.1 (by omega))
        have HA := Lib.hid (show 2 ≤ a by omega)
        clear h1 h2 hk
        go_enter Try.func83, Try.ntmps83
        go_wp2_with fail
        refine (of_any 1 (by omega) _).mono ?_
        rintro e w1 ⟨v1, rfl, i1, hB⟩
        replace ia := ia.below hB
        go_wp2_with fail
        refine (cmpR_any ia i1).mono ?_
        rintro e w2 ⟨rfl, b⟩
        replace hB := nextB hB b
        replace ia := ia.below b
        clear b i1
        go_wp2_with fail
        refine (of_any 1 (by omega) _).mono ?_
        rintro e w3 ⟨v3, rfl, i3, b⟩
        replace hB := nextB hB b
        replace ia := ia.below b
        clear b hc1
        obtain ⟨wo, hwo⟩ : ∃ wo : World, wo = w3 := ⟨_, rfl⟩
        rw [← hwo] at hB ia i3 ⊢
        clear hwo
        go_wp2
        go_loopw [6, 7] (fun v i wr => ∃ t : Nat, t ≤ n ∧ i = .int .i64 t ∧ IsR wr v (a ^ t) ∧ Hid (a ^ t < P2 16384) ∧ Below wo.heap.size wo wr) (fun _ i _ => n - (intOf i).toNat)
        case atStart => exact ⟨0, Nat.zero_le _, rfl, by rw [Nat.pow_zero]; exact i3, by rw [Nat.pow_zero]; exact H1, Below.refl _ _⟩
        case round =>
          obtain ⟨t, ht, rfl, iv, hv, hb⟩ := hrel
          clear i3
          replace hB := nextB hB hb
          by_cases hlt : t < n
          · have HQ := Lib.hid (show a ^ (t + 1) < P2 32768 by rw [Nat.pow_succ]; exact mul_lt_P2 hv.out HL.out)
            have HE := Lib.hid (Nat.pow_succ a t)
            replace ia := ia.below hb
            go_wp2_with fail
            refine (mulR_any iv ia 16384 (by omega) hv.out HL.out).mono ?_
            rintro e w4 ⟨v4, rfl, i4, b⟩
            rw [← HE.out] at i4
            replace ia := ia.below b
            replace hb := nextB hb b
            replace hB := nextB hB b
            clear b iv
            go_wp2_with fail
            refine (bitLenR_any i4).mono ?_
            rintro e wq ⟨rfl, hw⟩
            subst hw
            by_cases hg : 16384 < blen (a ^ (t + 1))
            · have hdg : decide ((16384 : Int) < (blen (a ^ (t + 1)) : Int)) = true := decide_eq_true (by omega)
              have hf : decide (a ^ n < P2 16384) = false := decide_eq_false (pow_nofit HA.out (fun hh => by have := blen_le.2 hh; omega) (show t + 1 ≤ n from hlt))
              go_wp2
              refine bodyPost_ret (v := .tuple #[.slice none 0 0, .bool false]) (by simp [results, Try.results83, go_sem]) rfl ⟨_, by rw [hf], by rw [hf]; exact IsR.zero _, hB⟩
            · have hdg : decide ((16384 : Int) < (blen (a ^ (t + 1)) : Int)) = false := decide_eq_false (by omega)
              have HL2 := Lib.hid (show a ^ (t + 1) < P2 16384 from blen_le.1 (by omega))
              go_wp2
              go_roundw
              case rel => exact ⟨t + 1, by omega, by go_num, i4, HL2, hb⟩
              case measure => simp [intOf]; omega
          · obtain rfl : t = n := by omega
            have hf : decide (a ^ t < P2 16384) = true := decide_eq_true hv.out
            obtain ⟨aoz, kz, capz, rfl, -, -⟩ := id iv.slice
            go_wp2
            refine bodyPost_ret (v := .tuple #[.slice aoz kz capz, .bool true]) (by simp [results, Try.results83, go_sem]) rfl ⟨_, by rw [hf], by rw [hf]; exact iv, hB⟩

end Go.Proofs.Ytppbhjhbaknidaa

/-
  The walk of the law NatPowers. No condition.
-/
set_option linter.unusedVariables false
set_option linter.unusedSimpArgs false
namespace Go.Proofs.Ytppbhjhbaknidaa
open Go.RowKit

theorem cmpI_le1 {c : Nat} (h : c < 2) : cmpI c 1 ≤ 0 := by
  rcases Nat.lt_or_ge c 1 with h1 | h1
  · rw [cmpI_lt h1]; omega
  · rw [show c = 1 by omega, cmpI_self]; omega

set_option maxHeartbeats 8000000 in
set_option maxRecDepth 100000 in
theorem NatPowers_walk (va : Value) (n : Int) (w : World) (ia : In16 w va) (hnr : -9223372036854775808 ≤ n ∧ n ≤ 9223372036854775807) :
    Calls Try.prog 20 #[va, .int .i64 n] w (RetB w true) := by
  have hB := Below.refl w.heap.size w
  go_enter Try.func20, Try.ntmps20
  go_wp2_with fail
  refine (raw_any ia 8 (by omega)).mono ?_
  rintro e w1 ⟨c, hc, rc, rfl, icr, b⟩
  replace hB := nextB hB b
  replace ia := ia.below b
  clear b
  have Hc := Lib.hid hc
  clear hc
  have Hc := Lib.hid (lt_P2_mono Hc.out (show 16 * 8 ≤ 16384 by omega))
  go_wp2_with fail
  refine (made_any icr Hc.out).mono ?_
  rintro e w2 ⟨v_, rfl, j_, b⟩
  obtain ⟨aox, qx, capx, rfl, xx⟩ := j_.slice
  clear j_
  replace hB := nextB hB b
  replace ia := ia.below b
  replace icr := icr.below b
  clear b
  obtain ⟨b, kx⟩ := pro1 w2 (.slice aox qx capx)
  obtain ⟨Rx, hRx⟩ : ∃ R, R = w2.heap.size := ⟨_, rfl⟩
  have cc0 := kx.cell
  go_wp2_with fail
  obtain ⟨w3, hw⟩ : ∃ w_ : World, w_ = (w2.alloc (.cells #[.slice aox qx capx] 25)) := ⟨_, rfl⟩
  rw [← hw] at b kx ⊢
  rw [← hRx] at kx ⊢
  clear hw hRx cc0
  replace hB := nextB hB b
  replace ia := ia.below b
  replace icr := icr.below b
  replace xx := xx.below b
  clear b
  by_cases hn0 : n < 0
  · refine (Pow_neg ⟨_, rfl, xx⟩ n hn0).mono ?_
    rintro e w4 ⟨v_, rfl, j_, b⟩
    rw [if_neg (by omega)] at j_
    replace hB := nextB hB b
    replace ia := ia.below b
    replace icr := icr.below b
    replace xx := xx.below b
    replace kx := kx.below b
    clear b
    obtain ⟨aoy, qy, capy, rfl, xy⟩ := j_.slice
    clear j_
    obtain ⟨b, ky⟩ := pro1 w4 (.slice aoy qy capy)
    obtain ⟨Ry, hRy⟩ : ∃ R, R = w4.heap.size := ⟨_, rfl⟩
    have cc0 := (kx.below b).cell
    have cc1 := ky.cell
    go_wp2_with fail
    obtain ⟨w5, hw⟩ : ∃ w_ : World, w_ = (w4.alloc (.cells #[.slice aoy qy capy] 25)) := ⟨_, rfl⟩
    rw [← hw] at b ky ⊢
    rw [← hRy] at ky ⊢
    clear hw hRy cc0 cc1
    replace hB := nextB hB b
    replace ia := ia.below b
    replace icr := icr.below b
    replace xx := xx.below b
    replace kx := kx.below b
    replace xy := xy.below b
    clear b
    refine (told_err (er := 2) ⟨_, rfl, xy⟩ (by omega) (by omega) ⟨_, _, _, rfl⟩).mono ?_
    rintro e w6 ⟨rfl, b⟩
    replace hB := nextB hB b
    replace ia := ia.below b
    replace icr := icr.below b
    replace xx := xx.below b
    replace kx := kx.below b
    replace xy := xy.below b
    replace ky := ky.below b
    clear b
    have cc0 := kx.cell
    have cc1 := ky.cell
    go_wp2_with fail
    clear cc0 cc1
    refine (awake_any _).mono ?_
    rintro e w7 ⟨rfl, b⟩
    replace hB := nextB hB b
    replace ia := ia.below b
    replace icr := icr.below b
    replace xx := xx.below b
    replace kx := kx.below b
    replace xy := xy.below b
    replace ky := ky.below b
    clear b
    go_wp2
    go_ret
    exact ⟨rfl, hB⟩
  · obtain ⟨n, rfl⟩ := Int.eq_ofNat_of_zero_le (show 0 ≤ n by omega)
    have hn : n < 9223372036854775808 := by omega
    have hd0 : decide ((n : Int) < 0) = false := decide_eq_false hn0
    clear hn0
    have HP1 := Lib.hid (fun w_ v_ (h : IsNat w_ v_ c) => Pow_any h n hn Hc.out)
    have HP2 := Lib.hid (fun w_ v_ (h : IsR w_ v_ c) => powR_any h n hn Hc.out)
    clear hnr
    by_cases hb1 : 16384 < n
    · have hdb : decide ((16384 : Int) < (n : Int)) = true := decide_eq_true (by omega)
      refine (HP1.out _ _ ⟨_, rfl, xx⟩).mono ?_
      rintro e w4 ⟨v_, rfl, j_, b⟩
      generalize he : fitE (c ^ n) = er at *
      have HER := Lib.hid he
      clear he
      replace hB := nextB hB b
      replace ia := ia.below b
      replace icr := icr.below b
      replace xx := xx.below b
      replace kx := kx.below b
      clear b
      obtain ⟨aoy, qy, capy, rfl, xy⟩ := j_.slice
      clear j_
      obtain ⟨b, ky⟩ := pro1 w4 (.slice aoy qy capy)
      obtain ⟨Ry, hRy⟩ : ∃ R, R = w4.heap.size := ⟨_, rfl⟩
      have cc0 := (kx.below b).cell
      have cc1 := ky.cell
      go_wp2_with fail
      obtain ⟨w5, hw⟩ : ∃ w_ : World, w_ = (w4.alloc (.cells #[.slice aoy qy capy] 25)) := ⟨_, rfl⟩
      rw [← hw] at b ky ⊢
      rw [← hRy] at ky ⊢
      clear hw hRy cc0 cc1
      replace hB := nextB hB b
      replace ia := ia.below b
      replace icr := icr.below b
      replace xx := xx.below b
      replace kx := kx.below b
      replace xy := xy.below b
      clear b
      refine (of_any 1 (by omega) _).mono ?_
      rintro e w6 ⟨vo, rfl, io, b⟩
      replace hB := nextB hB b
      replace ia := ia.below b
      replace icr := icr.below b
      replace xx := xx.below b
      replace kx := kx.below b
      replace xy := xy.below b
      replace ky := ky.below b
      clear b
      have cc0 := kx.cell
      have cc1 := ky.cell
      go_wp2_with fail
      clear cc0 cc1
      refine (cmpR_any icr io).mono ?_
      rintro e w7 ⟨rfl, b⟩
      replace hB := nextB hB b
      replace ia := ia.below b
      replace icr := icr.below b
      replace xx := xx.below b
      replace kx := kx.below b
      replace xy := xy.below b
      replace ky := ky.below b
      replace io := io.below b
      clear b
      by_cases hc2 : 2 ≤ c
      · have hdc : decide (0 < cmpI c 1) = true := decide_eq_true (by rw [cmpI_gt (show 1 < c by omega)]; omega)
        have e0 : er = 3 := by rw [← HER.out]; exact pow_huge hc2 hb1
        subst e0
        rw [if_neg (by omega)] at xy
        clear hc2
        have cc0 := kx.cell
        have cc1 := ky.cell
        go_wp2_with fail
        clear cc0 cc1
        refine (told_err (er := 3) ⟨_, rfl, xy⟩ (by omega) (by omega) ⟨_, _, _, rfl⟩).mono ?_
        rintro e w8 ⟨rfl, b⟩
        replace hB := nextB hB b
        replace ia := ia.below b
        replace icr := icr.below b
        replace xx := xx.below b
        replace kx := kx.below b
        replace xy := xy.below b
        replace ky := ky.below b
        replace io := io.below b
        clear b
        have cc0 := kx.cell
        have cc1 := ky.cell
        go_wp2_with fail
        clear cc0 cc1
        refine (awake_any _).mono ?_
        rintro e w9 ⟨rfl, b⟩
        replace hB := nextB hB b
        replace ia := ia.below b
        replace icr := icr.below b
        replace xx := xx.below b
        replace kx := kx.below b
        replace xy := xy.below b
        replace ky := ky.below b
        replace io := io.below b
        clear b
        go_wp2
        go_ret
        exact ⟨rfl, hB⟩
      · have hdc : decide (0 < cmpI c 1) = false := decide_eq_false (by have := cmpI_le1 (show c < 2 by omega); omega)
        have HF : Hid (c ^ n < P2 16384) := Lib.hid (by rw [pow_one_lt (show c < 2 by omega) (show n ≠ 0 by omega)]; exact Hc.out)
        clear hc2
        have e0 : er = 0 := by rw [← HER.out]; exact if_pos HF.out
        subst e0
        rw [if_pos rfl] at xy
        have HT := Lib.hid (decide_eq_true HF.out)
        have cc0 := kx.cell
        have cc1 := ky.cell
        go_wp2_with fail
        clear cc0 cc1
        refine (HP2.out _ _ icr).mono ?_
        rintro e w8 ⟨vp, rfl, ip, b⟩
        rw [HT.out, if_pos rfl] at ip
        rw [HT.out]
        replace hB := nextB hB b
        replace ia := ia.below b
        replace icr := icr.below b
        replace xx := xx.below b
        replace kx := kx.below b
        replace xy := xy.below b
        replace ky := ky.below b
        replace io := io.below b
        clear b
        have cc0 := kx.cell
        have cc1 := ky.cell
        go_wp2_with fail
        clear cc0 cc1
        refine (told_ok ⟨_, rfl, xy⟩ ip 16384 (by omega) HF.out).mono ?_
        rintro e w9 ⟨rfl, b⟩
        replace hB := nextB hB b
        replace ia := ia.below b
        replace icr := icr.below b
        replace xx := xx.below b
        replace kx := kx.below b
        replace xy := xy.below b
        replace ky := ky.below b
        replace io := io.below b
        replace ip := ip.below b
        clear b
        have cc0 := kx.cell
        have cc1 := ky.cell
        go_wp2_with fail
        clear cc0 cc1
        refine (awake_any _).mono ?_
        rintro e w10 ⟨rfl, b⟩
        replace hB := nextB hB b
        replace ia := ia.below b
        replace icr := icr.below b
        replace xx := xx.below b
        replace kx := kx.below b
        replace xy := xy.below b
        replace ky := ky.below b
        replace io := io.below b
        replace ip := ip.below b
        clear b
        go_wp2
        go_ret
        exact ⟨rfl, hB⟩
    · have hn16 : n ≤ 16384 := by omega
      refine (HP1.out _ _ ⟨_, rfl, xx⟩).mono ?_
      rintro e w4 ⟨v_, rfl, j_, b⟩
      generalize he : fitE (c ^ n) = er at *
      have HER := Lib.hid he
      clear he
      replace hB := nextB hB b
      replace ia := ia.below b
      replace icr := icr.below b
      replace xx := xx.below b
      replace kx := kx.below b
      clear b
      obtain ⟨aoy, qy, capy, rfl, xy⟩ := j_.slice
      clear j_
      obtain ⟨b, ky⟩ := pro1 w4 (.slice aoy qy capy)
      obtain ⟨Ry, hRy⟩ : ∃ R, R = w4.heap.size := ⟨_, rfl⟩
      have cc0 := (kx.below b).cell
      have cc1 := ky.cell
      go_wp2_with fail
      obtain ⟨w5, hw⟩ : ∃ w_ : World, w_ = (w4.alloc (.cells #[.slice aoy qy capy] 25)) := ⟨_, rfl⟩
      rw [← hw] at b ky ⊢
      rw [← hRy] at ky ⊢
      clear hw hRy cc0 cc1
      replace hB := nextB hB b
      replace ia := ia.below b
      replace icr := icr.below b
      replace xx := xx.below b
      replace kx := kx.below b
      replace xy := xy.below b
      clear b
      by_cases hf : c ^ n < P2 16384
      · have HF := Lib.hid hf
        clear hf
        have e0 : er = 0 := by rw [← HER.out]; exact if_pos HF.out
        subst e0
        rw [if_pos rfl] at xy
        have HT := Lib.hid (decide_eq_true HF.out)
        refine (HP2.out _ _ icr).mono ?_
        rintro e w6 ⟨vp, rfl, ip, b⟩
        rw [HT.out, if_pos rfl] at ip
        rw [HT.out]
        replace hB := nextB hB b
        replace ia := ia.below b
        replace icr := icr.below b
        replace xx := xx.below b
        replace kx := kx.below b
        replace xy := xy.below b
        replace ky := ky.below b
        clear b
        have cc0 := kx.cell
        have cc1 := ky.cell
        go_wp2_with fail
        clear cc0 cc1
        refine (told_ok ⟨_, rfl, xy⟩ ip 16384 (by omega) HF.out).mono ?_
        rintro e w7 ⟨rfl, b⟩
        replace hB := nextB hB b
        replace ia := ia.below b
        replace icr := icr.below b
        replace xx := xx.below b
        replace kx := kx.below b
        replace xy := xy.below b
        replace ky := ky.below b
        replace ip := ip.below b
        clear b
        have cc0 := kx.cell
        have cc1 := ky.cell
        go_wp2_with fail
        clear cc0 cc1
        refine (awake_any _).mono ?_
        rintro e w8 ⟨rfl, b⟩
        replace hB := nextB hB b
        replace ia := ia.below b
        replace icr := icr.below b
        replace xx := xx.below b
        replace kx := kx.below b
        replace xy := xy.below b
        replace ky := ky.below b
        replace ip := ip.below b
        clear b
        go_wp2
        go_ret
        exact ⟨rfl, hB⟩
      · have e0 : er = 3 := by rw [← HER.out]; exact if_neg hf
        subst e0
        rw [if_neg (by omega)] at xy
        have HT := Lib.hid (decide_eq_false hf)
        clear hf
        refine (HP2.out _ _ icr).mono ?_
        rintro e w6 ⟨vp, rfl, ip, b⟩
        rw [HT.out]
        clear ip
        replace hB := nextB hB b
        replace ia := ia.below b
        replace icr := icr.below b
        replace xx := xx.below b
        replace kx := kx.below b
        replace xy := xy.below b
        replace ky := ky.below b
        clear b
        have cc0 := kx.cell
        have cc1 := ky.cell
        go_wp2_with fail
        clear cc0 cc1
        refine (told_err (er := 3) ⟨_, rfl, xy⟩ (by omega) (by omega) ⟨_, _, _, rfl⟩).mono ?_
        rintro e w7 ⟨rfl, b⟩
        replace hB := nextB hB b
        replace ia := ia.below b
        replace icr := icr.below b
        replace xx := xx.below b
        replace kx := kx.below b
        replace xy := xy.below b
        replace ky := ky.below b
        clear b
        have cc0 := kx.cell
        have cc1 := ky.cell
        go_wp2_with fail
        clear cc0 cc1
        refine (awake_any _).mono ?_
        rintro e w8 ⟨rfl, b⟩
        replace hB := nextB hB b
        replace ia := ia.below b
        replace icr := icr.below b
        replace xx := xx.below b
        replace kx := kx.below b
        replace xy := xy.below b
        replace ky := ky.below b
        clear b
        go_wp2
        go_ret
        exact ⟨rfl, hB⟩

end Go.Proofs.Ytppbhjhbaknidaa
