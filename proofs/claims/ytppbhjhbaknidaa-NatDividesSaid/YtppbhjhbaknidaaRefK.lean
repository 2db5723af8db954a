/-
  The contract of the specification's DivMod, bit by bit. Condition: numbers of at most 2^29 bits.
-/
import Derived.Test.YtppbhjhbaknidaaRefI
import Derived.Test.YtppbhjhbaknidaaRefJ
import Derived.StillTailTactics
set_option linter.unusedVariables false
set_option linter.unusedSimpArgs false
namespace Go.Proofs.Ytppbhjhbaknidaa
open Go.RowKit

def RetRR (w : World) (m n : Nat) (e : Ending) (w' : World) : Prop := ∃ v1 v2, e = .returned (.tuple #[v1, v2]) ∧ IsR w' v1 m ∧ IsR w' v2 n ∧ Below w.heap.size w w'

/-- A number of the specification's in a block of the call's own. -/
def RetRF (w : World) (n : Nat) (e : Ending) (w' : World) : Prop := ∃ v, e = .returned v ∧ IsR w' v n ∧ Below w.heap.size w w' ∧ (∀ k, v.ownBlock = some k → w.heap.size ≤ k)

theorem trim_row {w : World} {B : Nat} {v : Value} {xs : List Nat} (h : Row w B .i64 3 v xs) (hm : xs.length ≤ 1099511627776) (hd : Dg 65536 xs) :
    Calls Try.prog 105 #[v] w fun e w' => ∃ v', e = .returned v' ∧ IsR w v' (val 65536 xs) ∧ w' = w ∧ (∀ k, v'.ownBlock = some k → B ≤ k) := by
  have hlt := h.lt
  obtain ⟨ao, n, cap, b, off, rfl, hs⟩ := h.sl hm hd.wf16
  refine (trim_val hs).mono ?_
  rintro e w' ⟨rfl, rfl⟩
  have ht := trim_spec xs
  rw [hs.len] at ht
  have := (hs.head ht.1).sl
  rw [← ht.2] at this
  refine ⟨_, rfl, ⟨_, this, hd.can, val_trim _ _⟩, rfl, fun k hk => (hlt k ?_).1⟩
  cases ao with
  | none => cases hk
  | some a => exact hk

set_option maxHeartbeats 1000000 in
theorem subR_own {w : World} {va vb : Value} {m n : Nat} (ha : IsR w va m) (hb : IsR w vb n) (L : Nat) (hL : L ≤ 8589934592) (hm : m < P2 L) (hmn : n ≤ m) :
    Calls Try.prog 57 #[va, vb] w (RetRF w (m - n)) := by
  obtain ⟨xs, ha, hca, rfl⟩ := ha
  obtain ⟨ys, hb, hcb, rfl⟩ := hb
  have l1 := hca.len_R hm
  have l2 : ys.length ≤ xs.length := hcb.len_le (by omega) (Nat.lt_of_le_of_lt hmn (val_lt hca.1))
  have ha' := id ha
  have hb' := id hb
  obtain ⟨ao, n, cap, b, off, rfl, hs⟩ := ha
  obtain ⟨ao2, n2, cap2, b2, off2, rfl, hs2⟩ := hb
  have E1 := Lib.hid hs.len
  have E2 := Lib.hid hs2.len
  rw [E1.out] at l1 l2
  rw [E2.out] at l2
  have HM := Lib.hid hmn
  clear hm hmn
  go_enter Try.func57, Try.ntmps57
  go_wp2
  go_loopw [5, 6, 7, 8] (fun o c i _ wr => ∃ (k cc : Nat) (zs : List Nat), i = .int .i64 k ∧ c = .int .i64 cc ∧ k ≤ n ∧ SubR xs ys zs k cc ∧ Row wr w.heap.size .i64 3 o zs ∧ Below w.heap.size w wr)
    (fun _ _ i _ _ => n - (intOf i).toNat)
  case atStart => exact ⟨0, 0, [], rfl, rfl, by omega, ⟨rfl, Dg.nil _, by omega, by simp [val]⟩, Row.nil _ _ _ _, Below.refl _ _⟩
  case round =>
    obtain ⟨k, cc, zs, rfl, rfl, hk, hinv, hrow, hbel⟩ := hrel
    have hsz := hbel.size
    have hcar := hinv.car
    have hzl : zs.length < 1099511627776 := by rw [hinv.len]; omega
    by_cases hlt : k < n
    · have hx := hca.1.nth (by omega) k
      have hy := hcb.1.nth (by omega) k
      obtain rfl := hs.addr.resolve_right (by omega)
      have hc1 : wr.cell? ⟨b, off + k, none⟩ = some (.int .i64 (nth xs k)) := by
        rw [hbel.cell (p := ⟨b, off + k, none⟩) (hs.lt (by omega))]; exact hs.cells k hlt
      have B2 := at_part (hb'.below hbel) k (by omega)
      have HI := Lib.hid (fun d c' => hinv.step (d := d) (c' := c'))
      generalize hgx : nth xs k = x at *
      generalize hgy : nth ys k = y at *
      clear hgx hgy
      by_cases hneg : x < y + cc
      · have t1 : decide ((x : Int) - y - cc < 0) = true := decide_eq_true (by omega)
        go_wp2
        go_quiet ((go_at_call 104; (with_reducible refine Calls.quiet_of_same (B2.out _ ?_)); rfl))
        go_wp2_with (at_builtin; go_loud (refine wpList_append_row _ rfl _ _ 29 rfl w.heap.size 3 .i64 8 Try.underlying29 (by kernel_rfl) (by omega) _ zs _ (x + 65536 - y - cc) (by rfl) (hrow.keep (below_drewN' (Below.refl _ _) _) (Nat.le_refl _)) (by rfl) (by first | rfl | omega) hzl hsz ?_; intro v' w' hrow' hbel' _))
        go_roundw
        case rel => exact ⟨k + 1, 1, _, by go_num, by go_num, by omega, HI.out _ _ (by omega) (by omega) (by omega), hrow', (below_drewN' hbel _).trans hbel'⟩
        case measure => simp [intOf]; omega
      · have t1 : decide ((x : Int) - y - cc < 0) = false := decide_eq_false (by omega)
        go_wp2
        go_quiet ((go_at_call 104; (with_reducible refine Calls.quiet_of_same (B2.out _ ?_)); rfl))
        go_wp2_with (at_builtin; go_loud (refine wpList_append_row _ rfl _ _ 29 rfl w.heap.size 3 .i64 8 Try.underlying29 (by kernel_rfl) (by omega) _ zs _ (x - y - cc) (by rfl) (hrow.keep (below_drewN' (Below.refl _ _) _) (Nat.le_refl _)) (by rfl) (by first | rfl | omega) hzl hsz ?_; intro v' w' hrow' hbel' _))
        go_roundw
        case rel => exact ⟨k + 1, 0, _, by go_num, by go_num, by omega, HI.out _ _ (by omega) (by omega) (by omega), hrow', (below_drewN' hbel _).trans hbel'⟩
        case measure => simp [intOf]; omega
    · obtain rfl : k = n := by omega
      have HF := Lib.hid (hinv.done E1.out (by rw [E2.out]; omega) HM.out)
      go_wp2_with fail
      refine (trim_row hrow (by omega) hinv.dg).mono ?_
      rintro e w2 ⟨v, rfl, hv, hw, hfr⟩
      subst hw
      rw [HF.out] at hv
      go_wp2
      go_ret
      exact ⟨_, rfl, hv, hbel, hfr⟩

theorem bits_step (A t : Nat) : A / P2 t = 2 * (A / P2 (t + 1)) + bitAt A t := by
  unfold bitAt
  rw [P2_succ, Nat.mul_comm 2 (P2 t), ← Nat.div_div_eq_div_mul]
  omega

theorem IsR.setAway {w : World} {v : Value} {n R : Nat} (h : IsR w v n) (hne : ∀ g, v.ownBlock = some g → g ≠ R) (i : Nat) (u : Value) : IsR (w.drew.setCell ⟨R, i, none⟩ u) v n := by
  obtain ⟨xs, ⟨ao, k, cap, b, off, rfl, hs⟩, hc, hv⟩ := h
  refine ⟨xs, ?_, hc, hv⟩
  by_cases h0 : 0 < k
  · obtain rfl := hs.addr.resolve_right (by omega)
    have hs2 : SlAt w.drew .i64 (some ⟨b, off, none⟩) k cap b off xs := hs.heap rfl
    exact (hs2.setOther i u (hne b rfl)).sl
  · exact ⟨ao, k, cap, b, off, rfl, { hs with cells := fun j hj => by omega }⟩

/-- The quotient's digits so far. -/
structure DivRI (A B : Nat) (qs : List Nat) (N j : Nat) : Prop where
  len : qs.length = N
  dg : Dg 65536 qs
  eq : val 65536 qs = A / P2 j / B * P2 j

theorem div_two_add {X B c : Nat} (hB : 0 < B) (hc : c < 2) :
    (2 * (X % B) + c < B → (2 * X + c) / B = 2 * (X / B) ∧ (2 * X + c) % B = 2 * (X % B) + c) ∧
    (B ≤ 2 * (X % B) + c → (2 * X + c) / B = 2 * (X / B) + 1 ∧ (2 * X + c) % B = 2 * (X % B) + c - B) := by
  have e := Nat.mod_add_div X B
  have h := Nat.mod_lt X hB
  generalize X % B = r at *
  generalize X / B = q at *
  have e2 : 2 * X + c = (2 * r + c) + B * (2 * q) := by
    rw [← e, Nat.mul_add, Nat.mul_left_comm B 2 q]; omega
  rw [e2]
  refine ⟨fun h1 => ?_, fun h1 => ?_⟩
  · rw [Nat.add_mul_div_left _ _ hB, Nat.add_mul_mod_self_left, Nat.div_eq_of_lt h1, Nat.mod_eq_of_lt h1]
    exact ⟨by omega, rfl⟩
  · have e3 : 2 * r + c + B * (2 * q) = (2 * r + c - B) + B * (2 * q + 1) := by
      rw [Nat.mul_add B (2 * q) 1]; omega
    have h2 : 2 * r + c - B < B := by omega
    rw [e3, Nat.add_mul_div_left _ _ hB, Nat.add_mul_mod_self_left, Nat.div_eq_of_lt h2, Nat.mod_eq_of_lt h2]
    exact ⟨by omega, rfl⟩

theorem DivRI.keep {A B : Nat} {qs : List Nat} {N t : Nat} (h : DivRI A B qs N (t + 1)) (he : A / P2 t / B = 2 * (A / P2 (t + 1) / B)) : DivRI A B qs N t :=
  ⟨h.len, h.dg, by
    rw [h.eq, he]
    generalize A / P2 (t + 1) / B = q
    rw [P2_succ, Nat.mul_comm 2 q, Nat.mul_assoc]⟩

theorem top_room {Y s : Nat} (hs : s < 16) : Y * 2 ^ (s + 1) % 65536 + 2 ^ s < 65536 := by
  have h2 : 65536 = 2 ^ (s + 1) * 2 ^ (15 - s) := by rw [← Nat.pow_add, show s + 1 + (15 - s) = 16 by omega]
  have h3 : Y * 2 ^ (s + 1) % 65536 = 2 ^ (s + 1) * (Y % 2 ^ (15 - s)) := by
    rw [h2, Nat.mul_comm Y, Nat.mul_mod_mul_left]
  have h4 : Y % 2 ^ (15 - s) < 2 ^ (15 - s) := Nat.mod_lt _ (Nat.pow_pos (by omega))
  have h5 : 2 ^ (s + 1) * (Y % 2 ^ (15 - s) + 1) ≤ 2 ^ (s + 1) * 2 ^ (15 - s) := Nat.mul_le_mul_left _ h4
  rw [h3]
  rw [← h2, Nat.mul_add, Nat.mul_one] at h5
  have h6 : 0 < 2 ^ s := Nat.pow_pos (by omega)
  rw [Nat.pow_succ] at *
  omega

theorem DivRI.set {A B : Nat} {qs : List Nat} {N t : Nat} (h : DivRI A B qs N (t + 1)) (he : A / P2 t / B = 2 * (A / P2 (t + 1) / B) + 1) (ht : t / 16 < N) :
    DivRI A B (qs.set (t / 16) (nth qs (t / 16) + 2 ^ (t % 16))) N t ∧ nth qs (t / 16) + 2 ^ (t % 16) < 65536 := by
  have hd : nth qs (t / 16) + 2 ^ (t % 16) < 65536 := by
    rw [nth_digit h.dg, h.eq]
    have e : A / P2 (t + 1) / B * P2 (t + 1) = 65536 ^ (t / 16) * (A / P2 (t + 1) / B * 2 ^ (t % 16 + 1)) := by
      rw [P2_succ, ← P2_split t, Nat.pow_succ]
      simp only [Nat.mul_comm, Nat.mul_left_comm, Nat.mul_assoc]
    rw [e, Nat.mul_div_cancel_left _ (Nat.pow_pos (by omega))]
    exact top_room (by omega)
  refine ⟨⟨by rw [List.length_set, h.len], h.dg.set _ hd, ?_⟩, hd⟩
  have e := val_set 65536 qs (t / 16) (nth qs (t / 16) + 2 ^ (t % 16)) (by rw [h.len]; exact ht)
  rw [Nat.mul_add, P2_split] at e
  have e5 := h.eq
  rw [he]
  generalize A / P2 (t + 1) / B = q at *
  rw [P2_succ] at e5
  rw [Nat.add_mul, Nat.one_mul, Nat.mul_assoc, Nat.mul_left_comm 2 q, ← e5]
  omega

set_option maxHeartbeats 4000000 in
set_option maxRecDepth 100000 in
theorem divModR_any {w : World} {va vb : Value} {m n : Nat} (ha : IsR w va m) (hb : IsR w vb n) (hn0 : 0 < n) (L : Nat) (hL : L ≤ 536870912) (hm : m < P2 L) (hn : n < P2 L) :
    Calls Try.prog 59 #[va, vb] w (RetRR w (m / n) (m % n)) := by
  obtain ⟨ys, hb', hcb, hvb⟩ := id hb
  obtain ⟨xs, ha', hca, rfl⟩ := id ha
  have l1 := hca.len_R hm
  have hv := val_lt hca.1
  rw [P2_16] at hv
  obtain ⟨ao, N, cap, b, off, rfl, hs⟩ := ha'
  rw [hs.len] at l1 hv
  have hN : N ≤ 60000000 := by omega
  have hbl : blen (val 65536 xs) ≤ 16 * N := blen_le.2 hv
  have hbl0 : val 65536 xs < P2 (blen (val 65536 xs)) := lt_blen
  have HM := Lib.hid hm
  have HN := Lib.hid hn
  have hlL : n < P2 (L + 1) := lt_P2_mono hn (by omega)
  have HNL := Lib.hid hlL
  clear hm hn hv hlL hs hb' hcb hca hvb ys
  generalize hA : val 65536 xs = A at *
  clear hA
  have HA0 : Hid (A / P2 (blen A) / n = 0 ∧ A / P2 (blen A) % n = 0) := Lib.hid (by
    rw [Nat.div_eq_of_lt hbl0, Nat.zero_div, Nat.zero_mod]; exact ⟨rfl, rfl⟩)
  generalize hbb : blen A = bl at *
  have HBB := Lib.hid hbb
  clear hbb hbl0
  have hone : 1 < P2 (L + 1) := by rw [P2_succ]; have := P2_pos L; omega
  have HONE := Lib.hid hone
  clear hone
  go_enter Try.func59, Try.ntmps59
  go_wp2_with (first | (at_make; refine wpList_make_nums _ rfl _ _ 29 rfl 3 .i64 8 Try.underlying29 (by kernel_rfl) .i64 .i64 _ _ N rfl rfl rfl rfl (by omega) (by omega) ?_; intro w1 hown hbel) | fail)
  refine (bitLenR_any (ha.below hbel)).mono ?_
  rintro e wq ⟨rfl, hw⟩
  subst hw
  rw [HBB.out]
  go_wp2
  go_loopw [7, 8] (fun rv i wr => ∃ (j : Nat) (qs : List Nat), i = .int .i64 ((j : Int) - 1) ∧ j ≤ bl ∧ Own wr .i64 3 w.heap.size qs ∧ Hid (DivRI A n qs N j) ∧ IsR wr rv (A / P2 j % n) ∧ Below w.heap.size w wr) (fun _ i _ => (intOf i + 1).toNat)
  case atStart => exact ⟨bl, List.replicate N 0, rfl, Nat.le_refl _, hown, Lib.hid ⟨by simp, Dg.zeros (by omega) _, by rw [val_zeros, HA0.out.1, Nat.zero_mul]⟩, by rw [HA0.out.2]; exact IsR.zero _, hbel⟩
  case round =>
    obtain ⟨j, qs, rfl, hj, hown1, hinv, ir, hB⟩ := hrel
    clear hown hbel
    have hsz := hB.size
    by_cases hj0 : j = 0
    · subst hj0
      have HV : Hid (val 65536 qs = A / n) := Lib.hid (by
        have := hinv.out.eq
        rw [show P2 0 = 1 from rfl, Nat.div_one, Nat.mul_one] at this; exact this)
      have HR : Hid (A / P2 0 % n = A % n) := Lib.hid (by rw [show P2 0 = 1 from rfl, Nat.div_one])
      have hd0 : decide ((0 : Int) ≤ ((0 : Nat) : Int) - 1) = false := rfl
      go_wp2_with fail
      refine (trim_own hown1 (n := N) hinv.out.len (by omega) hinv.out.dg).mono ?_
      rintro e w2 ⟨v, rfl, hvb, hv, rfl⟩
      rw [HV.out] at hv
      rw [HR.out] at ir
      go_wp2
      go_ret2
      exact ⟨_, _, rfl, hv, ir, hB⟩
    · obtain ⟨t, rfl⟩ : ∃ t, j = t + 1 := ⟨j - 1, by omega⟩
      rw [show ((t + 1 : Nat) : Int) - 1 = (t : Int) by omega]
      have htN : t / 16 < N := by omega
      have HS := Lib.hid (bits_step A t)
      have hbt := bitAt_lt A t
      have hr0 : A / P2 (t + 1) % n < n := Nat.mod_lt _ hn0
      have HD := Lib.hid (div_two_add (X := A / P2 (t + 1)) hn0 hbt)
      rw [← HS.out] at HD
      obtain ⟨wo, hwo⟩ : ∃ wo : World, wo = wr := ⟨_, rfl⟩
      rw [← hwo] at hown1 ir hB hsz ⊢
      clear hwo
      go_wp2_with fail
      refine (shlR_any ir 1 (by omega) (L + 1) (by omega) (Nat.lt_trans hr0 HNL.out)).mono ?_
      rintro e w2 ⟨v2, rfl, i2, bb⟩
      rw [P2_one] at i2
      have hB2 := nextB hB bb
      have hown2 := hown1.below bb hown1.lt
      clear bb
      go_wp2_with fail
      refine (bitR_any (ha.below hB2) t (by omega) L (by omega) HM.out).mono ?_
      rintro e w3 ⟨rfl, nd, rfl⟩
      generalize hgb : bitAt A t = bit at *
      generalize hgr : A / P2 (t + 1) % n = r at *
      have hown3 : Own (w2.drewN nd) .i64 3 w.heap.size qs := hown2
      have i3 : IsR (w2.drewN nd) v2 (r * 2) := i2.below (below_drewN' (Below.refl _ _) nd)
      have hB3 : Below w.heap.size w (w2.drewN nd) := below_drewN' hB2 nd
      clear hown2 i2 hB2
      generalize w2.drewN nd = w4 at *
      have hcase : bit = 0 ∨ bit = 1 := by omega
      have HRL : Hid (r * 2 + bit < P2 (L + 1)) := Lib.hid (by have h1 := HN.out; rw [P2_succ]; omega)
      have HRL2 : Hid (r * 2 < P2 (L + 1)) := Lib.hid (by have h1 := HN.out; rw [P2_succ]; omega)
      have HSX := Lib.hid (show 2 * r + bit = r * 2 + bit by omega)
      rw [HSX.out] at HD
      have HZ := Lib.hid hcase
      rcases hcase with hb0 | hb1
      rotate_left
      · subst hb1
        go_wp2_with fail
        refine (of_any 1 (by omega) _).mono ?_
        rintro e w5 ⟨v5, rfl, i5, bb⟩
        replace hB3 := nextB hB3 bb
        replace hown3 := hown3.below bb hown3.lt
        replace i3 := i3.below bb
        clear bb
        go_wp2_with fail
        refine (addR_any i3 i5 (L + 1) (by omega) HRL2.out HONE.out).mono ?_
        rintro e w6 ⟨v6, rfl, i6, bb⟩
        replace hB3 := nextB hB3 bb
        replace hown3 := hown3.below bb hown3.lt
        clear bb i3 i5
        have hb6 := hb.below hB3
        go_wp2_with fail
        refine (cmpR_any i6 hb6).mono ?_
        rintro e w7 ⟨rfl, bb⟩
        replace hB3 := nextB hB3 bb
        replace hown3 := hown3.below bb hown3.lt
        replace i6 := i6.below bb
        replace hb6 := hb6.below bb
        clear bb
        by_cases hge : n ≤ r * 2 + 1
        · have HDV := Lib.hid (HD.out.2 hge)
          have hz := cmpI_ge hge
          have HGE := Lib.hid hge
          clear hge
          generalize cmpI (r * 2 + 1) n = z at hz ⊢
          have hd : decide ((0 : Int) ≤ z) = true := decide_eq_true hz
          go_wp2_with fail
          refine (subR_own i6 hb6 (L + 1) (by omega) HRL.out HGE.out).mono ?_
          have hownlt := hown3.lt
          rintro e w8 ⟨v8, rfl, i8, bb, hfr⟩
          replace hB3 := nextB hB3 bb
          replace hown3 := hown3.below bb hown3.lt
          have hne : ∀ g, v8.ownBlock = some g → g ≠ w.heap.size := fun g hg hc => by have h1 := hfr g hg; have h2 := hownlt; omega
          clear bb i6 hb6 hfr hownlt
          have HSET := Lib.hid (hinv.out.set HDV.out.1 htN)
          have hcell := hown3.cell (i := t / 16) (by rw [hinv.out.len]; exact htN)
          have hfr := hown3.frozen (t / 16)
          have hx := hinv.out.dg.nth (by omega) (t / 16)
          have hq := pow_small (show t % 16 < 16 by omega)
          have HW := Lib.hid (fun w0 => power_any (t % 16) (by omega) w0)
          have hownd : Own w8.drew .i64 3 w.heap.size qs := hown3
          have e1 : Int.tdiv (t : Int) 16 = ((t / 16 : Nat) : Int) := rfl
          have e2 : Int.tmod (t : Int) 16 = ((t % 16 : Nat) : Int) := rfl
          have e3 : (t : Int) / 16 = ((t / 16 : Nat) : Int) := rfl
          have e4 : (t : Int) % 16 = ((t % 16 : Nat) : Int) := rfl
          generalize 2 ^ (t % 16) = qq at *
          generalize t % 16 = s at *
          generalize t / 16 = k at *
          generalize nth qs k = x at *
          obtain ⟨hq1, hq2⟩ := hq
          have W1 : IntKind.i64.wrap (k : Int) = (k : Int) := IntWalk.i64_in _ (by omega)
          have W2 : IntKind.i64.wrap (s : Int) = (s : Int) := IntWalk.i64_in _ (by omega)
          have W3 : IntKind.i64.wrap ((x : Int) + (qq : Int)) = (x : Int) + (qq : Int) := IntWalk.i64_in _ (by omega)
          have hkN : (k : Int) < (N : Int) := by omega
          clear hz hd hj0
          go_wp2_with fail
          refine wp_region_still_tail 10 (by kernel_rfl) (by kernel_rfl) ?_
          simp only [List.take_succ_cons, List.take_zero, List.drop_succ_cons, List.drop_zero]
          still_step
          still_step
          still_step
          still_step
          still_step
          still_step
          still_step
          still_call (HW.out _)
          still_step
          still_step
          refine wpStill_nil ?_
          clear e1 e2 e3 e4
          go_wp2
          go_roundw
          case rel => exact ⟨t, qs.set k (x + qq), rfl, by omega, (hown3.seti k (x + qq) (by rw [Int.natCast_add])), Lib.hid HSET.out.1, by rw [HDV.out.2]; exact i8.setAway hne k _, (hB3.drew.setCell (Nat.le_refl _) _)⟩
          case measure => simp [intOf]
        · have HDV := Lib.hid (HD.out.1 (by omega))
          have hz := cmpI_lt (m := r * 2 + 1) (n := n) (by omega)
          rw [hz]
          clear hge hz
          go_wp2
          go_roundw
          case rel => exact ⟨t, qs, rfl, by omega, hown3, Lib.hid (hinv.out.keep HDV.out.1), by rw [HDV.out.2]; exact i6, hB3⟩
          case measure => simp [intOf]
      · subst hb0
        have i6 : IsR w4 v2 (r * 2 + 0) := i3
        clear i3
        have hb6 := hb.below hB3
        go_wp2_with fail
        refine (cmpR_any i6 hb6).mono ?_
        rintro e w7 ⟨rfl, bb⟩
        replace hB3 := nextB hB3 bb
        replace hown3 := hown3.below bb hown3.lt
        replace i6 := i6.below bb
        replace hb6 := hb6.below bb
        clear bb
        by_cases hge : n ≤ r * 2 + 0
        · have HDV := Lib.hid (HD.out.2 hge)
          have hz := cmpI_ge hge
          have HGE := Lib.hid hge
          clear hge
          generalize cmpI (r * 2 + 0) n = z at hz ⊢
          have hd : decide ((0 : Int) ≤ z) = true := decide_eq_true hz
          go_wp2_with fail
          refine (subR_own i6 hb6 (L + 1) (by omega) HRL.out HGE.out).mono ?_
          have hownlt := hown3.lt
          rintro e w8 ⟨v8, rfl, i8, bb, hfr⟩
          replace hB3 := nextB hB3 bb
          replace hown3 := hown3.below bb hown3.lt
          have hne : ∀ g, v8.ownBlock = some g → g ≠ w.heap.size := fun g hg hc => by have h1 := hfr g hg; have h2 := hownlt; omega
          clear bb i6 hb6 hfr hownlt
          have HSET := Lib.hid (hinv.out.set HDV.out.1 htN)
          have hcell := hown3.cell (i := t / 16) (by rw [hinv.out.len]; exact htN)
          have hfr := hown3.frozen (t / 16)
          have hx := hinv.out.dg.nth (by omega) (t / 16)
          have hq := pow_small (show t % 16 < 16 by omega)
          have HW := Lib.hid (fun w0 => power_any (t % 16) (by omega) w0)
          have hownd : Own w8.drew .i64 3 w.heap.size qs := hown3
          have e1 : Int.tdiv (t : Int) 16 = ((t / 16 : Nat) : Int) := rfl
          have e2 : Int.tmod (t : Int) 16 = ((t % 16 : Nat) : Int) := rfl
          have e3 : (t : Int) / 16 = ((t / 16 : Nat) : Int) := rfl
          have e4 : (t : Int) % 16 = ((t % 16 : Nat) : Int) := rfl
          generalize 2 ^ (t % 16) = qq at *
          generalize t % 16 = s at *
          generalize t / 16 = k at *
          generalize nth qs k = x at *
          obtain ⟨hq1, hq2⟩ := hq
          have W1 : IntKind.i64.wrap (k : Int) = (k : Int) := IntWalk.i64_in _ (by omega)
          have W2 : IntKind.i64.wrap (s : Int) = (s : Int) := IntWalk.i64_in _ (by omega)
          have W3 : IntKind.i64.wrap ((x : Int) + (qq : Int)) = (x : Int) + (qq : Int) := IntWalk.i64_in _ (by omega)
          have hkN : (k : Int) < (N : Int) := by omega
          clear hz hd hj0
          go_wp2_with fail
          refine wp_region_still_tail 10 (by kernel_rfl) (by kernel_rfl) ?_
          simp only [List.take_succ_cons, List.take_zero, List.drop_succ_cons, List.drop_zero]
          still_step
          still_step
          still_step
          still_step
          still_step
          still_step
          still_step
          still_call (HW.out _)
          still_step
          still_step
          refine wpStill_nil ?_
          clear e1 e2 e3 e4
          go_wp2
          go_roundw
          case rel => exact ⟨t, qs.set k (x + qq), rfl, by omega, (hown3.seti k (x + qq) (by rw [Int.natCast_add])), Lib.hid HSET.out.1, by rw [HDV.out.2]; exact i8.setAway hne k _, (hB3.drew.setCell (Nat.le_refl _) _)⟩
          case measure => simp [intOf]
        · have HDV := Lib.hid (HD.out.1 (by omega))
          have hz := cmpI_lt (m := r * 2 + 0) (n := n) (by omega)
          rw [hz]
          clear hge hz
          go_wp2
          go_roundw
          case rel => exact ⟨t, qs, rfl, by omega, hown3, Lib.hid (hinv.out.keep HDV.out.1), by rw [HDV.out.2]; exact i6, hB3⟩
          case measure => simp [intOf]

end Go.Proofs.Ytppbhjhbaknidaa
