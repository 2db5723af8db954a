/-
  The contract of the specification's Parse. Condition: strings of at most 2^40 bytes.
-/
import Derived.Test.YtppbhjhbaknidaaDecLaw
import Derived.Test.YtppbhjhbaknidaaString
set_option linter.unusedVariables false
set_option linter.unusedSimpArgs false
namespace Go.Proofs.Ytppbhjhbaknidaa
open Go.RowKit

/-- A number of the specification's and the error code er (0 where there is none; then the number is n, else 0). -/
def RetRE (w : World) (n er : Nat) (e : Ending) (w' : World) : Prop := ∃ v, e = .returned (.tuple #[v, .int .i64 er]) ∧ IsR w' v (if er = 0 then n else 0) ∧ Below w.heap.size w w'

structure MulTen (xs zs : List Nat) (c0 k c : Nat) : Prop where
  len : zs.length = k
  dg : Dg 65536 zs
  car : c ≤ 10
  eq : val 65536 zs + 65536 ^ k * c = 10 * val 65536 (xs.take k) + c0
  can : zs = [] ∨ 65536 ^ (zs.length - 1) ≤ 10 * val 65536 xs + c0

theorem MulTen.zero (xs : List Nat) (c0 : Nat) (h : c0 ≤ 9) : MulTen xs [] c0 0 c0 := ⟨rfl, Dg.nil _, by omega, by simp [val], .inl rfl⟩

theorem MulTen.step {xs zs : List Nat} {c0 k c : Nat} (h : MulTen xs zs c0 k c) (ha : Can 65536 xs) (hr : k < xs.length ∨ 0 < c) :
    MulTen xs (zs ++ [(c + 10 * nth xs k) % 65536]) c0 (k + 1) ((c + 10 * nth xs k) / 65536) := by
  have h1 := ha.1.nth (by omega) k
  have h3 := h.car
  refine ⟨by simp [h.len], h.dg.snoc (Nat.mod_lt _ (by omega)), by omega, ?_, .inr ?_⟩
  · rw [val_snoc, val_take_succ, Nat.pow_succ, Nat.mul_assoc, Nat.add_assoc, h.len, ← Nat.mul_add, Nat.mod_add_div, Nat.mul_add, Nat.mul_add]
    have := h.eq
    have e : 65536 ^ k * (10 * nth xs k) = 10 * (65536 ^ k * nth xs k) := Nat.mul_left_comm ..
    omega
  · rw [List.length_append, List.length_singleton, Nat.add_sub_cancel, h.len]
    rcases hr with hr | hr
    · have g := ha.ge (by intro e; simp [e] at hr)
      have := Nat.pow_le_pow_right (n := 65536) (by omega) (show k ≤ xs.length - 1 by omega)
      omega
    · have e := h.eq
      have g1 := val_take_le 65536 xs k
      have g2 := Nat.mul_le_mul_left (65536 ^ k) (show 1 ≤ c from hr)
      omega

theorem MulTen.done {xs zs : List Nat} {c0 k : Nat} (h : MulTen xs zs c0 k 0) (hk : xs.length ≤ k) : val 65536 zs = 10 * val 65536 xs + c0 := by
  have := h.eq
  rwa [val_take_ge _ hk, Nat.mul_zero, Nat.add_zero] at this

set_option maxHeartbeats 2000000 in
set_option maxRecDepth 100000 in
theorem parseR_any (s : ByteArray) (w : World) (hs : s.size ≤ 1099511627776) :
    Calls Try.prog 33 #[.string s] w (RetRE w (numOf (byts s)) (parseE (byts s))) := by
  rw [parseE_eq]
  by_cases hn : IsNum (byts s)
  · rw [if_pos hn]
    by_cases hl : s.size ≤ 5000
    · obtain ⟨l, hl0⟩ : ∃ l, l = byts s := ⟨_, rfl⟩
      have hll : l.length = s.size := by rw [hl0, byts_len]
      have HBY : Hid (∀ k (h : k < s.size), nth l k = s[k].toNat) := Lib.hid fun k h => by rw [hl0]; exact byts_nth s h
      have HD : Hid (∀ i, i < s.size → Digit (nth l i)) := Lib.hid fun i hi => by rw [hl0]; exact hn.2.2 i (by rw [byts_len]; exact hi)
      have HX := Lib.hid (numOf_lt (l := l) (fun i hi => HD.out i (by rw [← hll]; exact hi)))
      have HN := Lib.hid (fun w0 => numeralR_any s w0 hs true ⟨fun _ => hn, fun _ => rfl⟩)
      rw [← hl0]
      have HLL := Lib.hid hll
      clear hn hl0 hll
      go_enter Try.func33, Try.ntmps33
      go_wp2_with fail
      refine (HN.out _).mono ?_
      rintro e w0 ⟨rfl, rfl⟩
      go_wp2
      go_loopw [4, 5, 6, 7, 8] (fun v i _ _ _ wr => ∃ k : Nat, k ≤ s.size ∧ i = .int .i64 k ∧ IsR wr v (numOf (l.take k)) ∧ Below w0.heap.size w0 wr) (fun _ i _ _ _ _ => s.size - (intOf i).toNat)
      case atStart => exact ⟨0, Nat.zero_le _, rfl, IsR.zero _, Below.refl _ _⟩
      case round =>
        obtain ⟨k, hk, rfl, iv, hb1⟩ := hrel
        have hsz := hb1.size
        have HA : Hid (numOf (l.take k) < P2 20000) := Lib.hid (Nat.lt_of_lt_of_le (HX.out k (by rw [HLL.out]; exact hk)) (Nat.le_trans (pow10_P2 _) (P2_mono (by omega))))
        by_cases hlt : k < s.size
        · have hbn := HBY.out k hlt
          have hdg := HD.out k hlt
          have HV : Hid (numOf (l.take (k + 1)) = 10 * numOf (l.take k) + (s[k].toNat - 48)) := Lib.hid (by
            rw [numOf_take l k (by rw [HLL.out]; exact hlt), hbn])
          rw [hbn] at hdg
          obtain ⟨d1, d2⟩ := hdg
          clear hbn
          obtain ⟨xs, hsl, hca, hval⟩ := iv
          have HVX := Lib.hid hval
          have hln := hca.len_R (L := 20000) (by rw [hval]; exact HA.out)
          clear hval
          obtain ⟨ao, n, cap, b, off, rfl, hs1⟩ := id hsl
          have E1 := Lib.hid hs1.len
          rw [E1.out] at hln
          obtain ⟨wo, hwo⟩ : ∃ wo : World, wo = wr := ⟨_, rfl⟩
          rw [← hwo] at hsl hs1 hb1 hsz ⊢
          clear hwo
          obtain ⟨dd, hdd⟩ : ∃ dd : Nat, dd = s[k].toNat - 48 := ⟨_, rfl⟩
          have hdd9 : dd ≤ 9 := by omega
          have hddI : ((s[k].toNat : Int) - 48) = (dd : Int) := by omega
          rw [← hdd] at HV
          clear hdd
          go_wp2
          go_loopw [6, 7, 8] (fun c o kk wr => ∃ (j cc : Nat) (zs : List Nat), kk = .int .i64 j ∧ c = .int .i64 cc ∧ j ≤ n + 1 ∧ (j = n + 1 → cc = 0) ∧ MulTen xs zs dd j cc ∧ Row wr wo.heap.size .i64 3 o zs ∧ Below wo.heap.size wo wr)
            (fun c _ kk _ => 20 * (n + 1 - (intOf kk).toNat) + (intOf c).toNat)
          case atStart => exact ⟨0, dd, [], rfl, rfl, by omega, by omega, MulTen.zero xs dd hdd9, Row.nil _ _ _ _, Below.refl _ _⟩
          case round =>
            obtain ⟨j, cc, zs, rfl, rfl, hj, hjc, hinv, hrow, hbel⟩ := hrel
            have hsz2 := hbel.size
            have hcar := hinv.car
            have hzl : zs.length < 1099511627776 := by rw [hinv.len]; omega
            by_cases hr : j < n ∨ 0 < cc
            · have hx := hca.1.nth (by omega) j
              have HI := Lib.hid (hinv.step hca (by rw [E1.out]; exact hr))
              have HZ := Lib.hid (fun h : n ≤ j => nth_ge (xs := xs) (i := j) (by rw [E1.out]; exact h))
              have hjle : j ≤ n := by
                by_cases h : j = n + 1
                · have := hjc h; omega
                · omega
              have A1 : Calls Try.prog 104 #[.slice ao n cap, .int .i64 j] wr _ := at_any (hsl.below hbel) j (by omega)
              have B1 := Lib.hid A1
              clear A1 hjc
              generalize hgx : nth xs j = x at *
              clear hgx
              have hr' : j < n ∨ (n ≤ j ∧ 0 < cc) := by omega
              clear hr hddI
              rcases hr' with hr | ⟨hr, hr2⟩
              all_goals
                go_wp2_with fail
                refine B1.out.mono ?_
                rintro e w1 ⟨rfl, rfl⟩
                go_wp2_with (at_builtin; go_loud (refine wpList_append_row _ rfl _ _ 29 rfl wo.heap.size 3 .i64 8 Try.underlying29 (by kernel_rfl) (by omega) _ zs _ ((cc + 10 * x) % 65536) (by rfl) hrow (by rfl) (by first | rfl | omega) hzl hsz2 ?_; intro v' w' hrow' hbel' _))
                go_roundw
                case rel => exact ⟨j + 1, (cc + 10 * x) / 65536, _, by go_num, by go_num, by omega, by intro h; have := HZ.out (by omega); omega, HI.out, hrow', hbel.trans hbel'⟩
                case measure => simp [intOf]; omega
            · have hc0 : cc = 0 := by omega
              subst hc0
              have HF := Lib.hid (hinv.done (by rw [E1.out]; omega))
              clear hddI
              go_wp2
              go_roundw
              case rel => exact ⟨k + 1, by omega, by go_num, ⟨zs, hrow.sl (by omega) hinv.dg.wf16, can_of_ge (by omega) hinv.dg (by rw [HF.out]; exact hinv.can), by rw [HF.out, HV.out, HVX.out]⟩, hb1.trans (hbel.mono hsz)⟩
              case measure => simp [intOf]; omega
        · have hk2 : k = s.size := by omega
          have HT : Hid (numOf (l.take k) = numOf l) := Lib.hid (by rw [List.take_of_length_le (by rw [HLL.out]; omega)])
          have hbl : blen (numOf (l.take k)) ≤ 16384 ↔ numOf (l.take k) < P2 16384 := blen_le
          have hbl2 : blen (numOf (l.take k)) ≤ 20000 := blen_le.2 HA.out
          by_cases hfit : numOf (l.take k) < P2 16384
          · have hb := hbl.2 hfit
            have HF : Hid (fitE (numOf l) = 0) := Lib.hid (by rw [← HT.out]; exact if_pos hfit)
            clear hbl hk2 hfit
            go_wp2_with fail
            refine (bitLenR_any iv).mono ?_
            rintro e w2 ⟨rfl, rfl⟩
            go_wp2
            go_ret2
            exact ⟨_, by rw [HF.out]; rfl, by rw [HF.out, if_pos rfl, ← HT.out]; exact iv, hb1⟩
          · have hb : ¬ blen (numOf (l.take k)) ≤ 16384 := fun h => hfit (hbl.1 h)
            have HF : Hid (fitE (numOf l) = 3) := Lib.hid (by rw [← HT.out]; exact if_neg hfit)
            clear hbl hk2 hfit
            go_wp2_with fail
            refine (bitLenR_any iv).mono ?_
            rintro e w2 ⟨rfl, rfl⟩
            go_wp2
            go_ret2
            exact ⟨_, by rw [HF.out]; rfl, by rw [HF.out, if_neg (by omega)]; exact IsR.zero _, hb1⟩
    · have HF : Hid (fitE (numOf (byts s)) = 3) := Lib.hid (fitE_big (num_ge hn (by rw [byts_len]; omega)))
      have HN := Lib.hid (fun w0 => numeralR_any s w0 hs true ⟨fun _ => hn, fun _ => rfl⟩)
      clear hn
      go_enter Try.func33, Try.ntmps33
      go_wp2_with fail
      refine (HN.out _).mono ?_
      rintro e w1 ⟨rfl, rfl⟩
      go_wp2
      go_ret2
      exact ⟨_, by rw [HF.out]; rfl, by rw [HF.out, if_neg (by omega)]; exact IsR.zero _, Below.refl _ _⟩
  · rw [if_neg hn]
    have HN := Lib.hid (fun w0 => numeralR_any s w0 hs false ⟨fun h => (by cases h), fun h => absurd h hn⟩)
    clear hn
    go_enter Try.func33, Try.ntmps33
    go_wp2_with fail
    refine (HN.out _).mono ?_
    rintro e w1 ⟨rfl, rfl⟩
    go_wp2
    go_ret2
    exact ⟨_, rfl, by rw [if_neg (by omega)]; exact IsR.zero _, Below.refl _ _⟩

end Go.Proofs.Ytppbhjhbaknidaa
