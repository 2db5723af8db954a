/-
  The contract of the program's Parse. Condition: strings of at most 2^40 bytes.
-/
import Derived.Test.YtppbhjhbaknidaaNumeral
namespace Go.Proofs.Ytppbhjhbaknidaa
open Go.RowKit

/-- The number that these digits write. -/
def numOf (l : List Nat) : Nat := l.foldl (fun a c => 10 * a + (c - 48)) 0
theorem numOf_snoc (l : List Nat) (c : Nat) : numOf (l ++ [c]) = 10 * numOf l + (c - 48) := by simp [numOf]
theorem take_nth (l : List Nat) (k : Nat) (h : k < l.length) : l.take (k + 1) = l.take k ++ [nth l k] := by
  rw [List.take_succ_eq_append_getElem h, nth_lt h]
theorem numOf_take (l : List Nat) (k : Nat) (h : k < l.length) : numOf (l.take (k + 1)) = 10 * numOf (l.take k) + (nth l k - 48) := by
  rw [take_nth l k h, numOf_snoc]
theorem numOf_lt {l : List Nat} (hd : ∀ i, i < l.length → Digit (nth l i)) : ∀ k, k ≤ l.length → numOf (l.take k) < 10 ^ k
  | 0, _ => by simp [numOf]
  | k + 1, h => by
    have h1 := numOf_lt hd k (by omega)
    have h2 := hd k (by omega)
    unfold Digit at h2
    rw [numOf_take l k (by omega), Nat.pow_succ]
    omega
theorem pow10_P2 (k : Nat) : 10 ^ k ≤ P2 (4 * k) := by
  unfold P2
  rw [Nat.pow_mul]
  exact Nat.pow_le_pow_left (by omega) k

instance (x : Nat) : Decidable (Digit x) := by unfold Digit; infer_instance
instance (l : List Nat) : Decidable (IsNum l) := by unfold IsNum; infer_instance
/-- The error code of Parse. -/
def parseE (l : List Nat) : Nat := if IsNum l then (if l.length ≤ 4933 then fitE (numOf l) else 3) else 4

theorem pow10_le {k : Nat} (h : k ≤ 9) : 10 ^ k ≤ 1000000000 := Nat.pow_le_pow_right (n := 10) (by omega) h

set_option maxHeartbeats 1000000 in
theorem parse_any (s : ByteArray) (w : World) (hs : s.size ≤ 1099511627776) :
    Calls Try.prog 32 #[.string s] w (RetE w (numOf (byts s)) (parseE (byts s))) := by
  have hblt : w.heap.size < (w.alloc (.cells #[.slice none 0 0] 25)).heap.size := by simp
  have hB0 : Below w.heap.size w (w.alloc (.cells #[.slice none 0 0] 25)) := (Below.refl _ _).alloc (Nat.le_refl _) _
  have hr0 := Blk.new w #[.slice none 0 0] 25
  have c0 := hr0.cell 0
  have f0 := hr0.frozen 0
  rw [show (#[Value.slice none 0 0] : Array Value)[0]? = some (.slice none 0 0) from rfl] at c0
  by_cases hn : IsNum (byts s)
  · by_cases hl : s.size ≤ 4933
    · have hE : parseE (byts s) = fitE (numOf (byts s)) := by unfold parseE; rw [if_pos hn, if_pos (by rw [byts_len]; exact hl)]
      rw [hE]
      clear hE
      obtain ⟨l, hl0⟩ : ∃ l, l = byts s := ⟨_, rfl⟩
      have hll : l.length = s.size := by rw [hl0, byts_len]
      have HBY : Hid (∀ k (h : k < s.size), nth l k = s[k].toNat) := Lib.hid fun k h => by rw [hl0]; exact byts_nth s h
      have HD : Hid (∀ i, i < s.size → Digit (nth l i)) := Lib.hid fun i hi => by rw [hl0]; exact hn.2.2 i (by rw [byts_len]; exact hi)
      have HX := Lib.hid (numOf_lt (l := l) (fun i hi => HD.out i (by rw [← hll]; exact hi)))
      have HN := Lib.hid (fun w0 => numeral_any s w0 hs true ⟨fun _ => hn, fun _ => rfl⟩)
      rw [← hl0]
      have HLL := Lib.hid hll
      clear hn hl0 hll
      go_enter Try.func32, Try.ntmps32
      go_wp2_with fail
      refine (HN.out _).mono ?_
      rintro e w1 ⟨rfl, rfl⟩
      go_wp2
      obtain ⟨wo, hwo⟩ : ∃ wo : World, wo = w.alloc (.cells #[.slice none 0 0] 25) := ⟨_, rfl⟩
      rw [← hwo] at hblt hB0 hr0 c0 f0 ⊢
      clear hwo
      go_loopw [4, 5, 6, 7, 8, 28, 29] (fun v i _ _ _ _ _ wr => ∃ k : Nat, k ≤ s.size ∧ i = .int .i64 k ∧ IsN wr v (numOf (l.take k)) ∧ Below wo.heap.size wo wr) (fun _ i _ _ _ _ _ _ => s.size - (intOf i).toNat)
      case atStart => exact ⟨0, Nat.zero_le _, rfl, IsN.zero _, Below.refl _ _⟩
      case round =>
        obtain ⟨k, hk, rfl, iv, hb1⟩ := hrel
        have hsz := hb1.size
        by_cases hlt : k < s.size
        · have hq0 : ∃ q : Nat, 1 ≤ q ∧ q ≤ 9 ∧ k + q ≤ s.size ∧ ((((s.size : Int) - k) % 9 == 0) = true ∧ q = 9 ∨ (((s.size : Int) - k) % 9 == 0) = false ∧ ((s.size : Int) - k) % 9 = q) := by
            by_cases h : (s.size - k) % 9 = 0
            · exact ⟨9, by omega, by omega, by omega, .inl ⟨by rw [beq_iff_eq]; omega, rfl⟩⟩
            · exact ⟨(s.size - k) % 9, by omega, by omega, by omega, .inr ⟨by rw [beq_eq_false_iff_ne]; omega, by omega⟩⟩
          obtain ⟨q, q1, q9, qk, hq⟩ := hq0
          have HX2 := Lib.hid (HX.out (k + q) (by rw [HLL.out]; exact qk))
          have HX1 := Lib.hid (HX.out k (by rw [HLL.out]; omega))
          rcases hq with ⟨hq, hq2⟩ | ⟨hq, hq2⟩
          rotate_left
          have HQ3 := Lib.hid hq2
          clear hq2
          all_goals go_wp2
          rw [HQ3.out]
          all_goals
            go_loop [5, 7, 8, 29] (fun i c p t => ∃ tt cc pp : Nat, tt ≤ q ∧ i = .int .i64 ((k + tt : Nat) : Int) ∧ c = .int .u64 cc ∧ p = .int .u64 pp ∧ t = .int .i64 tt ∧ Hid (pp = 10 ^ tt) ∧ cc < pp ∧ pp ≤ 1000000000 ∧ Hid (numOf (l.take (k + tt)) = numOf (l.take k) * pp + cc)) (fun _ _ _ t => q - (intOf t).toNat)
            case atStart => exact ⟨0, 0, 1, Nat.zero_le _, rfl, rfl, rfl, rfl, Lib.hid rfl, by omega, by omega, Lib.hid (by rw [Nat.add_zero, Nat.mul_one]; rfl)⟩
            case round =>
              obtain ⟨tt, cc, pp, htt, rfl, rfl, rfl, rfl, hp, hcp, hp9, hv⟩ := hrel
              by_cases hlt2 : tt < q
              · have hbn := HBY.out (k + tt) (by omega)
                have hdg := HD.out (k + tt) (by omega)
                rw [hbn] at hdg
                obtain ⟨d1, d2⟩ := hdg
                have HP : Hid (pp * 10 = 10 ^ (tt + 1)) := Lib.hid (by rw [Nat.pow_succ, hp.out])
                have hp9' : pp * 10 ≤ 1000000000 := by rw [HP.out]; exact pow10_le (by omega)
                have HV : Hid (numOf (l.take (k + (tt + 1))) = numOf (l.take k) * (pp * 10) + (10 * cc + (s[k + tt].toNat - 48))) := Lib.hid (by
                  rw [← Nat.add_assoc, numOf_take l _ (by rw [HLL.out]; omega), hv.out, hbn, ← Nat.mul_assoc]; omega)
                clear hbn
                go_wp2
                go_round
                case rel => exact ⟨tt + 1, 10 * cc + (s[k + tt].toNat - 48), pp * 10, by omega, by go_num, by refine congrArg _ ?_; omega, by go_num, by go_num, HP, by omega, hp9', HV⟩
                case measure => simp [intOf]; omega
              · obtain rfl : tt = q := by omega
                have HA : Hid (numOf (l.take k) < P2 20000) := Lib.hid (Nat.lt_of_lt_of_le HX1.out (Nat.le_trans (pow10_P2 _) (P2_mono (by omega))))
                have HA2 : Hid (numOf (l.take k) * pp + cc < P2 20000) := Lib.hid (by
                  rw [← hv.out]; exact Nat.lt_of_lt_of_le HX2.out (Nat.le_trans (pow10_P2 _) (P2_mono (by omega))))
                have h33 : P2 30 = 1073741824 := by simp [P2]
                have HA3 : Hid (pp < P2 20000 ∧ cc < P2 20000) := Lib.hid (by
                  have := P2_mono (show 30 ≤ 20000 by omega)
                  omega)
                clear h33
                go_wp2_with fail
                refine (words_any pp _ (by omega) (by omega)).mono ?_
                rintro e w2 ⟨v2, rfl, i2, b2⟩
                rw [Int.toNat_natCast] at i2
                go_wp2_with fail
                refine (mul_any (iv.below b2) i2 20000 (by omega) HA.out HA3.out.1).mono ?_
                rintro e w3 ⟨v3, rfl, i3, b3⟩
                go_wp2_with fail
                refine (words_any cc _ (by omega) (by omega)).mono ?_
                rintro e w4 ⟨v4, rfl, i4, b4⟩
                rw [Int.toNat_natCast] at i4
                go_wp2_with fail
                refine (add_any (i3.below b4) i4 20000 (by omega) (Nat.lt_of_le_of_lt (Nat.le_add_right _ _) HA2.out) HA3.out.2).mono ?_
                rintro e w5 ⟨v5, rfl, i5, b5⟩
                have hb5 := nextB (nextB (nextB b2 b3) b4) b5
                rw [← hv.out] at i5
                go_wp2
                go_roundw
                case rel => exact ⟨k + tt, by omega, by first | rfl | (refine congrArg _ ?_; omega), i5, hb1.trans (hb5.mono hsz)⟩
                case measure => simp [intOf]; omega
        · have hk2 : k = s.size := by omega
          have HT : Hid (numOf (l.take k) = numOf l) := Lib.hid (by rw [List.take_of_length_le (by rw [HLL.out]; omega)])
          have HA : Hid (numOf (l.take k) < P2 20000) := Lib.hid (Nat.lt_of_lt_of_le (HX.out k (by rw [HLL.out]; omega)) (Nat.le_trans (pow10_P2 _) (P2_mono (by omega))))
          clear hk2
          go_wp2_with fail
          refine (fits_any iv 20000 (by omega) HA.out).mono ?_
          rintro e w2 ⟨v2, rfl, ⟨s2, rfl, is2⟩, b2⟩
          obtain ⟨ao3, k3, cap3, rfl⟩ := is2.slice
          rw [HT.out] at is2
          have hB2 := nextB hb1 b2
          have rb := hr0.below hB2
          have rc := rb.cell 0
          have rf := rb.frozen 0
          rw [show (#[Value.slice none 0 0] : Array Value)[0]? = some (.slice none 0 0) from rfl] at rc
          have hB := hB0.trans (hB2.mono (Nat.le_of_lt hblt))
          have HT2 := HT.out
          rw [HT2]
          clear HT2
          go_wp2
          refine bodyPost_ret (v := .tuple #[.agg #[.slice ao3 k3 cap3], .int .i64 (fitE (numOf l) : Nat)]) (by simp [results, Try.results32, go_sem, rc]) rfl ⟨_, rfl, ⟨_, rfl, is2.setBlk rb NoInt.one _ _⟩, hB.setCell (by simp) _⟩
    · have hE : parseE (byts s) = 3 := by unfold parseE; rw [if_pos hn, if_neg (by rw [byts_len]; exact hl)]
      rw [hE]
      clear hE
      have HN := Lib.hid (fun w0 => numeral_any s w0 hs true ⟨fun _ => hn, fun _ => rfl⟩)
      clear hn
      go_enter Try.func32, Try.ntmps32
      go_wp2_with fail
      refine (HN.out _).mono ?_
      rintro e w1 ⟨rfl, rfl⟩
      go_wp2
      refine bodyPost_ret (v := .tuple #[.agg #[.slice none 0 0], .int .i64 3]) (by simp [results, Try.results32, go_sem, c0]) rfl ⟨_, rfl, IsNat.zero _, hB0⟩
  · have hE : parseE (byts s) = 4 := by unfold parseE; rw [if_neg hn]
    rw [hE]
    clear hE
    have HN := Lib.hid (fun w0 => numeral_any s w0 hs false ⟨fun h => (by cases h), fun h => absurd h hn⟩)
    clear hn
    go_enter Try.func32, Try.ntmps32
    go_wp2_with fail
    refine (HN.out _).mono ?_
    rintro e w1 ⟨rfl, rfl⟩
    go_wp2
    refine bodyPost_ret (v := .tuple #[.agg #[.slice none 0 0], .int .i64 4]) (by simp [results, Try.results32, go_sem, c0]) rfl ⟨_, rfl, IsNat.zero _, hB0⟩

end Go.Proofs.Ytppbhjhbaknidaa
