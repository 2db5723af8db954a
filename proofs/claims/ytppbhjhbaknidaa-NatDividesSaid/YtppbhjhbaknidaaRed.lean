/-
  The contract of the program's reduce: the digit times the divisor is taken from the dividend in place, the digit corrected. Conditions: the digit is right or one too great; lengths of at most 2^30.
-/
import Derived.Test.YtppbhjhbaknidaaEst
namespace Go.Proofs.Ytppbhjhbaknidaa
open Go.RowKit

theorem val_lt_top {b : Nat} {zs : List Nat} (h : Dg b zs) (m : Nat) (ht : ∀ t, m ≤ t → nth zs t = 0) : val b zs < b ^ m ∨ b = 0 := by
  rcases Nat.eq_zero_or_pos b with hb | hb
  · exact .inr hb
  · left
    by_cases hm : zs.length ≤ m
    · exact Nat.lt_of_lt_of_le (val_lt h) (Nat.pow_le_pow_right hb hm)
    · have e := val_take_drop b zs m (by omega)
      have hz : zs.drop m = List.replicate (zs.length - m) 0 := by
        apply List.ext_getElem (by simp)
        intro i h1 h2
        rw [List.length_drop] at h1
        rw [List.getElem_drop, List.getElem_replicate, ← nth_lt (by omega)]
        exact ht _ (by omega)
      rw [hz, val_zeros, Nat.mul_zero, Nat.add_zero] at e
      rw [e]
      have := val_lt (h.take m)
      rwa [List.length_take, Nat.min_eq_left (by omega)] at this

theorem subW_wrapG {x c y : Nat} (hx : x < 4294967296) (hc : c < 4294967296) (hy : y < 4294967296) : IntKind.u64.wrap (IntKind.u64.wrap ((x : Int) - c) - y) = (subW x c y : Int) := by
  rw [wrap_u64, wrap_u64]
  unfold subW
  split <;> omega

theorem subW_cases {x c y : Nat} (hx : x < 4294967296) (hc : c < 4294967296) (hy : y ≤ 1) :
    (c + y ≤ x ∧ subW x c y % 4294967296 = x - c - y ∧ subW x c y / 9223372036854775808 = 0) ∨ (x < c + y ∧ subW x c y % 4294967296 = x + 4294967296 - c - y ∧ subW x c y / 9223372036854775808 = 1) := by
  unfold subW
  split
  · left; omega
  · right; omega

theorem subW_eq {x c y : Nat} (hx : x < 4294967296) (hc : c < 4294967296) (hy : y ≤ 1) : subW x c y % 4294967296 + c + y = x + 4294967296 * (subW x c y / 9223372036854775808) ∧ subW x c y / 9223372036854775808 ≤ 1 := by
  rcases subW_cases hx hc hy with ⟨h1, h2, h3⟩ | ⟨h1, h2, h3⟩ <;> rw [h2, h3] <;> omega

structure RedInv (us ys zs : List Nat) (q i k c bo : Nat) : Prop where
  len : zs.length = us.length
  dg : Dg 4294967296 zs
  car : c < 4294967296
  bor : bo ≤ 1
  eq : val 4294967296 zs + 4294967296 ^ i * (q * val 4294967296 (ys.take k)) = val 4294967296 us + 4294967296 ^ (i + k) * (c + bo)
  top : ∀ t, i + k ≤ t → nth zs t = nth us t

theorem RedInv.zero {us ys : List Nat} (h : Dg 4294967296 us) (q i : Nat) : RedInv us ys us q i 0 0 0 := ⟨rfl, h, by omega, by omega, by simp [val], fun _ _ => rfl⟩

theorem RedInv.step {us ys zs : List Nat} {q i k c bo : Nat} (h : RedInv us ys zs q i k c bo) (hq : q < 4294967296) (hy : Dg 4294967296 ys) (hi : i + k < us.length) :
    RedInv us ys (zs.set (i + k) (subW (nth zs (i + k)) ((q * nth ys k + c) % 4294967296) bo % 4294967296)) q i (k + 1) ((q * nth ys k + c) / 4294967296)
      (subW (nth zs (i + k)) ((q * nth ys k + c) % 4294967296) bo / 9223372036854775808) := by
  have b1 := mul_bd hq (hy.nth (by omega) k)
  have b2 := h.dg.nth (by omega) (i + k)
  have b3 := h.car
  have hpm : (q * nth ys k + c) % 4294967296 < 4294967296 := Nat.mod_lt _ (by omega)
  have hw := subW_eq b2 hpm h.bor
  have hpe := Nat.mod_add_div (q * nth ys k + c) 4294967296
  have hc' : (q * nth ys k + c) / 4294967296 < 4294967296 := by omega
  generalize hd : subW (nth zs (i + k)) ((q * nth ys k + c) % 4294967296) bo / 9223372036854775808 = bo' at *
  generalize he : subW (nth zs (i + k)) ((q * nth ys k + c) % 4294967296) bo % 4294967296 = d at *
  have hdl : d < 4294967296 := by rw [← he]; exact Nat.mod_lt _ (by omega)
  have hv := val_set 4294967296 zs (i + k) d (by rw [h.len]; exact hi)
  refine ⟨by rw [List.length_set, h.len], h.dg.set _ hdl, hc', hw.2, ?_, ?_⟩
  · have e := h.eq
    rw [val_take_succ, Nat.mul_add q, Nat.mul_add (4294967296 ^ i)]
    have e3 : 4294967296 ^ i * (q * (4294967296 ^ k * nth ys k)) = 4294967296 ^ (i + k) * (q * nth ys k) := by
      rw [Nat.pow_add]; simp only [Nat.mul_assoc, Nat.mul_left_comm]
    rw [e3, ← Nat.add_assoc i k 1, Nat.pow_succ 4294967296 (i + k), Nat.mul_assoc]
    clear hd he hc' b1 b2 b3 hdl
    generalize 4294967296 ^ (i + k) = p at *
    generalize (q * nth ys k + c) / 4294967296 = c' at *
    generalize (q * nth ys k + c) % 4294967296 = pm at *
    generalize nth zs (i + k) = z at *
    generalize q * nth ys k = m at *
    have f1 : p * d + p * pm + p * bo = p * z + p * (4294967296 * bo') := by rw [← Nat.mul_add, ← Nat.mul_add, ← Nat.mul_add, hw.1]
    have f2 : p * pm + p * (4294967296 * c') = p * m + p * c := by rw [← Nat.mul_add, ← Nat.mul_add, hpe]
    rw [Nat.mul_add, Nat.mul_add p]
    rw [Nat.mul_add] at e
    omega
  · intro t ht
    rw [nth_set_ne _ _ _ _ (by omega)]
    exact h.top t (by omega)

/-- The subtraction's last step: the word above. -/
theorem RedInv.last {us ys zs : List Nat} {q i c bo : Nat} (h : RedInv us ys zs q i ys.length c bo) (hi : i + ys.length < us.length) (htop : ∀ t, i + ys.length < t → nth us t = 0) :
    (zs.set (i + ys.length) (subW (nth zs (i + ys.length)) c bo % 4294967296)).length = us.length ∧
    Dg 4294967296 (zs.set (i + ys.length) (subW (nth zs (i + ys.length)) c bo % 4294967296)) ∧
    val 4294967296 (zs.set (i + ys.length) (subW (nth zs (i + ys.length)) c bo % 4294967296)) + 4294967296 ^ i * (q * val 4294967296 ys) =
      val 4294967296 us + 4294967296 ^ (i + ys.length + 1) * (subW (nth zs (i + ys.length)) c bo / 9223372036854775808) ∧
    (∀ t, i + ys.length < t → nth (zs.set (i + ys.length) (subW (nth zs (i + ys.length)) c bo % 4294967296)) t = 0) := by
  have hw := subW_eq (h.dg.nth (by omega) (i + ys.length)) h.car h.bor
  generalize hd : subW (nth zs (i + ys.length)) c bo / 9223372036854775808 = bo' at *
  generalize he : subW (nth zs (i + ys.length)) c bo % 4294967296 = d at *
  have hdl : d < 4294967296 := by rw [← he]; exact Nat.mod_lt _ (by omega)
  have hv := val_set 4294967296 zs (i + ys.length) d (by rw [h.len]; exact hi)
  refine ⟨by rw [List.length_set, h.len], h.dg.set _ hdl, ?_, ?_⟩
  · have e := h.eq
    rw [val_take_ge _ (Nat.le_refl _)] at e
    rw [Nat.pow_succ, Nat.mul_assoc]
    clear hd he hdl
    generalize 4294967296 ^ (i + ys.length) = p at *
    generalize nth zs (i + ys.length) = z at *
    have f1 : p * d + p * c + p * bo = p * z + p * (4294967296 * bo') := by rw [← Nat.mul_add, ← Nat.mul_add, ← Nat.mul_add, hw.1]
    rw [Nat.mul_add] at e
    omega
  · intro t ht
    rw [nth_set_ne _ _ _ _ (by omega), h.top t (by omega)]
    exact htop t ht

/-- What reduce leaves: the list, and the digit. -/
structure RedPost (us ys zs : List Nat) (i q' : Nat) : Prop where
  len : zs.length = us.length
  dg : Dg 4294967296 zs
  eq : val 4294967296 zs + q' * (4294967296 ^ i * val 4294967296 ys) = val 4294967296 us
  lt : val 4294967296 zs < 4294967296 ^ i * val 4294967296 ys
  q : q' < 4294967296

theorem red_back {us ys zs1 zs2 : List Nat} {q i c : Nat} (hq : q < 4294967296) (hd1 : Dg 4294967296 zs1) (hl1 : zs1.length = us.length) (hi : i + ys.length < us.length)
    (e1 : val 4294967296 zs1 + 4294967296 ^ i * (q * val 4294967296 ys) = val 4294967296 us + 4294967296 ^ (i + ys.length + 1) * 1)
    (t1 : ∀ t, i + ys.length < t → nth zs1 t = 0) (h2 : MulIn ys zs1 zs2 1 i ys.length c) (hlow : (q - 1) * (4294967296 ^ i * val 4294967296 ys) ≤ val 4294967296 us) :
    1 ≤ q ∧ RedPost us ys (zs2.set (i + ys.length) ((nth zs2 (i + ys.length) + c) % 4294967296)) i (q - 1) := by
  have hb2 := h2.dg.nth (by omega) (i + ys.length)
  have hc := h2.car
  have hov : (nth zs2 (i + ys.length) + c) / 4294967296 ≤ 1 := by omega
  have hme := Nat.mod_add_div (nth zs2 (i + ys.length) + c) 4294967296
  have hml : (nth zs2 (i + ys.length) + c) % 4294967296 < 4294967296 := Nat.mod_lt _ (by omega)
  generalize (nth zs2 (i + ys.length) + c) / 4294967296 = ov at *
  generalize (nth zs2 (i + ys.length) + c) % 4294967296 = d at *
  have hv := val_set 4294967296 zs2 (i + ys.length) d (by rw [h2.len, hl1]; exact hi)
  have hd3 : Dg 4294967296 (zs2.set (i + ys.length) d) := h2.dg.set _ hml
  have t3 : ∀ t, i + ys.length + 1 ≤ t → nth (zs2.set (i + ys.length) d) t = 0 := fun t ht => by
    rw [nth_set_ne _ _ _ _ (by omega), h2.top t (by omega)]; exact t1 t (by omega)
  have b1 := (val_lt_top hd1 (i + ys.length + 1) (fun t ht => t1 t (by omega))).resolve_right (by omega)
  have b3 := (val_lt_top hd3 (i + ys.length + 1) t3).resolve_right (by omega)
  have e2 := h2.eq
  rw [val_take_ge _ (Nat.le_refl _), Nat.one_mul] at e2
  have hl3 : (zs2.set (i + ys.length) d).length = us.length := by rw [List.length_set, h2.len, hl1]
  suffices hh : 1 ≤ q ∧ val 4294967296 (zs2.set (i + ys.length) d) + (q - 1) * (4294967296 ^ i * val 4294967296 ys) = val 4294967296 us ∧ val 4294967296 (zs2.set (i + ys.length) d) < 4294967296 ^ i * val 4294967296 ys from
    ⟨hh.1, hl3, hd3, hh.2.1, hh.2.2, by omega⟩
  generalize val 4294967296 (zs2.set (i + ys.length) d) = z3 at *
  generalize val 4294967296 zs2 = z2 at *
  generalize val 4294967296 zs1 = z1 at *
  generalize val 4294967296 us = u at *
  have ep : 4294967296 ^ (i + ys.length + 1) = 4294967296 ^ (i + ys.length) * 4294967296 := Nat.pow_succ ..
  generalize 4294967296 ^ (i + ys.length + 1) = P1 at *
  generalize 4294967296 ^ (i + ys.length) = P at *
  have e4 : 4294967296 ^ i * (q * val 4294967296 ys) = q * (4294967296 ^ i * val 4294967296 ys) := Nat.mul_left_comm ..
  rw [e4] at e1
  generalize 4294967296 ^ i * val 4294967296 ys = W at *
  generalize nth zs2 (i + ys.length) = y at *
  have f : P * d + P * (4294967296 * ov) = P * y + P * c := by rw [← Nat.mul_add, ← Nat.mul_add, hme]
  have f2 : P * (4294967296 * ov) = P1 * ov := by rw [ep, Nat.mul_assoc]
  have hq1 : 1 ≤ q := by
    rcases Nat.eq_zero_or_pos q with h0 | h0
    · subst h0; rw [Nat.zero_mul] at e1; omega
    · exact h0
  obtain ⟨r, rfl⟩ : ∃ r, q = r + 1 := ⟨q - 1, by omega⟩
  rw [Nat.add_sub_cancel] at hlow
  rw [Nat.add_sub_cancel]
  rw [Nat.add_mul, Nat.one_mul] at e1
  have ho : ov = 1 := by
    rcases Nat.lt_or_ge ov 1 with h | h
    · have : ov = 0 := by omega
      subst this
      rw [Nat.mul_zero] at f2
      omega
    · omega
  subst ho
  rw [Nat.mul_one] at f2 e1
  refine ⟨by omega, ?_, ?_⟩ <;> omega

theorem grown_set {w w1 : World} {g : Nat} (h : w.grownBy w1 (some g)) (o : Nat) (v : Value) : w.grownBy (w1.setCell ⟨g, o, none⟩ v) (some g) :=
  ⟨h.os, h.tape, h.output, by simpa [World.setCell] using h.size, fun k hk hne => by
    rw [Below.heap_setCell _ _ _ _ (by intro e; exact hne (by rw [e]))]; exact h.block k hk hne⟩
theorem grown_drewN {w w1 : World} {g : Nat} (h : w.grownBy w1 (some g)) (n : Nat) : w.grownBy (w1.drewN n) (some g) := ⟨h.os, h.tape, h.output, h.size, h.block⟩
theorem grown_cell {w w1 : World} {g b o : Nat} (h : w.grownBy w1 (some g)) (hb : b ≠ g) (hl : b < w.heap.size) : w1.cell? ⟨b, o, none⟩ = w.cell? ⟨b, o, none⟩ :=
  World.cell?_of_block (a := ⟨b, o, none⟩) (h.block b hl (by intro e; exact hb (Option.some.inj e)))

def RetRed (w : World) (g : Nat) (us ys : List Nat) (i : Nat) (e : Ending) (w' : World) : Prop :=
  ∃ zs q', e = .returned (.int .u32 (q' : Nat)) ∧ RedPost us ys zs i q' ∧ Own w' .u32 115 g zs ∧ w.grownBy w' (some g)

set_option maxHeartbeats 2000000 in
theorem reduce_any {w : World} {g cap : Nat} {us ys : List Nat} {q i : Nat} {vv : Value} (hu : Own w .u32 115 g us) (hcap : us.length ≤ cap) (hcap2 : cap ≤ 1099511627776) (hdu : Dg 4294967296 us) (hv : Sl w .u32 vv ys)
    (hdy : Dg 4294967296 ys) (hq : q < 4294967296) (hlen : i + ys.length < us.length) (hgv : ∀ ao n cap b off, SlAt w .u32 ao n cap b off ys → vv = .slice ao n cap → 0 < n → b ≠ g)
    (htop : ∀ t, i + ys.length < t → nth us t = 0) (h1 : val 4294967296 us < (q + 1) * (4294967296 ^ i * val 4294967296 ys)) (h2 : (q - 1) * (4294967296 ^ i * val 4294967296 ys) ≤ val 4294967296 us) :
    Calls Try.prog 131 #[.slice (some ⟨g, 0, none⟩) us.length cap, vv, .int .i64 i, .int .u64 q] w
      (RetRed w g us ys i) := by
  obtain ⟨ao2, n2, cap2, b2, off2, rfl, hs2⟩ := hv
  have hle2 := hs2.le
  have hmax2 := hs2.max
  have hgb := hgv _ _ _ _ _ hs2 rfl
  have HLY := Lib.hid hs2.len
  rw [hs2.len] at hlen htop
  obtain ⟨N, hN⟩ : ∃ N, N = us.length := ⟨_, rfl⟩
  rw [← hN] at hcap hlen ⊢
  have HN := Lib.hid hN
  have H1 := Lib.hid h1
  have H2 := Lib.hid h2
  have HT := Lib.hid htop
  clear hN h1 h2 htop hgv
  go_enter Try.func131, Try.ntmps131
  go_wp2
  go_loopw [9, 10, 19] (fun c bo k wr => ∃ (j cc bb : Nat) (zs : List Nat), j ≤ n2 ∧ k = .int .i64 j ∧ c = .int .u64 cc ∧ bo = .int .u64 bb ∧ RedInv us ys zs q i j cc bb ∧ Own wr .u32 115 g zs ∧ w.grownBy wr (some g))
    (fun _ _ k _ => n2 - (intOf k).toNat)
  case atStart => exact ⟨0, 0, 0, us, Nat.zero_le _, rfl, rfl, rfl, RedInv.zero hdu q i, hu, World.grownBy.refl _ _⟩
  case round =>
    obtain ⟨j, cc, bb, zs, hj, rfl, rfl, rfl, hinv, hown, hkeep⟩ := hrel
    have hcc := hinv.car
    have hbb := hinv.bor
    have HLZ : Hid (zs.length = N) := by rw [hinv.len]; exact HN.out.symm
    have ho : wr.cell? ⟨g, i + j, none⟩ = some (.int .u32 (nth zs (i + j))) := hown.cell (by rw [HLZ.out]; omega)
    have hf := hown.frozen (i + j)
    have hz := hinv.dg.nth (by omega) (i + j)
    by_cases hlt : j < n2
    · obtain rfl := hs2.addr.resolve_right (by omega)
      have hc2 : wr.cell? ⟨b2, off2 + j, none⟩ = some (.int .u32 (nth ys j)) := by
        rw [grown_cell hkeep (hgb (by omega)) (hs2.lt (by omega))]; exact hs2.cells j hlt
      have hy := hdy.nth (by omega) j
      have HF := Lib.hid (hinv.step hq hdy (by rw [← HN.out]; omega))
      obtain ⟨hb', hb0⟩ := mul_bdI hq hy
      have hpm : (q * nth ys j + cc) % 4294967296 < 4294967296 := Nat.mod_lt _ (by omega)
      have HW := Lib.hid (subW_wrapG (x := nth zs (i + j)) (c := (q * nth ys j + cc) % 4294967296) (y := bb) hz hpm (by omega))
      clear hpm
      have e0 : (q : Int) * (nth ys j : Int) + (cc : Int) = ((q * nth ys j + cc : Nat) : Int) := by rw [Int.natCast_add, Int.natCast_mul]
      have E0 := Lib.hid e0
      clear e0
      go_wp2
      rw [E0.out, show ((q * nth ys j + cc : Nat) : Int) % 4294967296 = (((q * nth ys j + cc) % 4294967296 : Nat) : Int) by omega, HW.out]
      go_roundw
      case rel =>
        refine ⟨j + 1, _, _, _, by omega, by go_num, ?_, ?_, HF.out, ?_, grown_set hkeep _ _⟩
        · refine congrArg _ ?_; omega
        · refine congrArg _ ?_; omega
        · exact hown.seti (i + j) _ (by omega)
      case measure => simp [intOf]; omega
    · obtain rfl : j = n2 := by omega
      have HLs := HLY.out
      subst HLs
      have hla := hinv.last (by rw [← HN.out]; exact hlen) HT.out
      obtain ⟨L1, L2, L3, L4⟩ := hla
      have hw := subW_wrapG (x := nth zs (i + ys.length)) (c := cc) (y := bb) hz hcc (by omega)
      have hsb := (subW_eq hz hcc hbb).2
      have hsl : subW (nth zs (i + ys.length)) cc bb < 18446744073709551616 := by unfold subW; split <;> omega
      generalize subW (nth zs (i + ys.length)) cc bb = S at *
      have hown1 := hown.seti (i + ys.length) (z := (S : Int) % 4294967296) (S % 4294967296) (by omega)
      have hkeep1 := grown_set hkeep (i + ys.length) (.int .u32 ((S : Int) % 4294967296))
      have O1 := Lib.hid hown1
      have P3 := Lib.hid L3
      have P1 := Lib.hid L1
      have P4 := Lib.hid L4
      clear hown1 L3 L1 L4
      by_cases hs0 : S < 9223372036854775808
      · have hS : ((S : Int) / 9223372036854775808 == 0) = true := beq_iff_eq.2 (by omega)
        have hfin : RedPost us ys (zs.set (i + ys.length) (S % 4294967296)) i q := by
          have e := P3.out
          rw [Nat.div_eq_of_lt hs0, Nat.mul_zero, Nat.add_zero, Nat.mul_left_comm] at e
          refine ⟨P1.out, L2, e, ?_, hq⟩
          have := H1.out
          rw [Nat.add_mul, Nat.one_mul] at this
          omega
        have HF := Lib.hid hfin
        clear hfin hs0 hsb hsl
        go_wp2
        go_ret
        refine ⟨_, q, ?_, HF.out, O1.out, hkeep1⟩
        rfl
      · have hS : (9223372036854775808 : Int) ≤ (S : Int) := by omega
        have hb1 : S / 9223372036854775808 = 1 := by omega
        have e1 := P3.out
        rw [hb1] at e1
        have E1 := Lib.hid e1
        clear e1 hb1 hs0 hsb
        go_wp2
        obtain ⟨wo, rfl⟩ : ∃ wo : World, wo = wr := ⟨_, rfl⟩
        obtain ⟨zs1, hz1⟩ : ∃ zs1, zs1 = zs.set (i + ys.length) (S % 4294967296) := ⟨_, rfl⟩
        rw [← hz1] at O1 P1 P4 L2 E1
        clear hz1 hinv hown
        go_loopw [9, 83] (fun c k w2 => ∃ (j cc : Nat) (zs2 : List Nat), j ≤ ys.length ∧ k = .int .i64 j ∧ c = .int .u64 cc ∧ MulIn ys zs1 zs2 1 i j cc ∧ Own w2 .u32 115 g zs2 ∧ w.grownBy w2 (some g))
          (fun _ k _ => ys.length - (intOf k).toNat)
        case atStart => exact ⟨0, 0, zs1, Nat.zero_le _, rfl, rfl, MulIn.zero L2 1 i, O1.out, hkeep1⟩
        case round =>
          obtain ⟨k, c2, zs2, hk, rfl, rfl, hin, hown2, hkeep2⟩ := hrel
          clear hkeep hkeep1 hcc hbb hw hS hz
          have hc2 := hin.car
          have HLZ2 : Hid (zs2.length = N) := by rw [hin.len, P1.out]; exact HN.out.symm
          by_cases hlt2 : k < ys.length
          · obtain rfl := hs2.addr.resolve_right (by omega)
            have hcv : wr.cell? ⟨b2, off2 + k, none⟩ = some (.int .u32 (nth ys k)) := by
              rw [grown_cell hkeep2 (hgb (by omega)) (hs2.lt (by omega))]; exact hs2.cells k hlt2
            have ho2 : wr.cell? ⟨g, i + k, none⟩ = some (.int .u32 (nth zs2 (i + k))) := hown2.cell (by rw [HLZ2.out]; omega)
            have hf2 := hown2.frozen (i + k)
            have hy := hdy.nth (by omega) k
            have hz := hin.dg.nth (by omega) (i + k)
            have HF := hin.step (by omega) hdy (by rw [P1.out, ← HN.out]; omega)
            rw [Nat.one_mul] at HF
            have HF := Lib.hid HF
            have e2 : IntKind.u64.wrap ((nth zs2 (i + k) : Int) + (nth ys k : Int)) = (nth zs2 (i + k) : Int) + (nth ys k : Int) := IntWalk.u64_in _ (by omega)
            have e3 : IntKind.u64.wrap ((nth zs2 (i + k) : Int) + (nth ys k : Int) + (c2 : Int)) = (nth zs2 (i + k) : Int) + (nth ys k : Int) + (c2 : Int) := IntWalk.u64_in _ (by omega)
            go_wp2
            go_quiet (fail)
            clear e2 e3
            go_wp2
            go_roundw
            case rel =>
              refine ⟨k + 1, _, _, by omega, by go_num, ?_, HF.out, ?_, grown_set (grown_drewN hkeep2 _) _ _⟩
              · refine congrArg _ ?_; omega
              · exact (hown2.drewN _).seti (i + k) _ (by omega)
            case measure => simp [intOf]; omega
          · obtain rfl : k = ys.length := by omega
            have hz := hin.dg.nth (by omega) (i + ys.length)
            have ho2 : wr.cell? ⟨g, i + ys.length, none⟩ = some (.int .u32 (nth zs2 (i + ys.length))) := hown2.cell (by rw [HLZ2.out]; omega)
            have hf2 := hown2.frozen (i + ys.length)
            have HF := Lib.hid (red_back hq L2 P1.out (by rw [← HN.out]; exact hlen) E1.out P4.out hin H2.out)
            go_wp2
            go_ret
            have hq1 := HF.out.1
            refine ⟨_, q - 1, ?_, HF.out.2, hown2.seti (i + ys.length) _ ?_, grown_set hkeep2 _ _⟩
            · refine congrArg Ending.returned ?_
              show Value.int .u32 _ = _
              refine congrArg _ ?_
              rw [wrap_u64]; omega
            · omega

end Go.Proofs.Ytppbhjhbaknidaa
