/-
  The contract of the program's divMod: quotient and remainder. Conditions: the divisor is not 0; numbers of at most 2^32 bits.
-/
import Derived.Test.YtppbhjhbaknidaaDivM
import Derived.StillTailTactics
namespace Go.Proofs.Ytppbhjhbaknidaa
open Go.RowKit

def RetNN (w : World) (m n : Nat) (e : Ending) (w' : World) : Prop := ∃ v1 v2, e = .returned (.tuple #[v1, v2]) ∧ IsN w' v1 m ∧ IsN w' v2 n ∧ Below w.heap.size w w'

theorem cmpI_lt {m n : Nat} (h : m < n) : cmpI m n = -1 := by simp [cmpI, h]
theorem cmpI_ge {m n : Nat} (h : n ≤ m) : 0 ≤ cmpI m n := by
  unfold cmpI; split
  · omega
  · split <;> omega

/-- The divisor is greater. -/
theorem divMod_less {w : World} {va vb : Value} {m n : Nat} (ha : IsN w va m) (hb : IsN w vb n) (h : m < n) :
    Calls Try.prog 111 #[va, vb] w (RetNN w (m / n) (m % n)) := by
  rw [Nat.div_eq_of_lt h, Nat.mod_eq_of_lt h]
  have hc := cmp_any ha hb
  rw [cmpI_lt h] at hc
  have HC := Lib.hid hc
  clear hc
  go_enter Try.func111, Try.ntmps111
  go_wp2_with fail
  refine HC.out.mono ?_
  rintro e w1 ⟨rfl, b1⟩
  go_wp2
  go_ret2
  exact ⟨_, _, rfl, IsN.zero _, ha.below b1, b1⟩

/-- The divisor is one word. -/
theorem divMod_word {w : World} {va vb : Value} {m n : Nat} (ha : IsN w va m) (hb : IsN w vb n) (h : n ≤ m) (h1 : 1 ≤ n) (h2 : n < 4294967296) (L : Nat) (hL : L ≤ 4294967296) (hm : m < P2 L) :
    Calls Try.prog 111 #[va, vb] w (RetNN w (m / n) (m % n)) := by
  have hc := cmp_any ha hb
  have hge := cmpI_ge h
  have hcs : (cmpI m n) ≤ 1 := by unfold cmpI; split <;> (try split) <;> omega
  generalize cmpI m n = z at *
  have HC := Lib.hid hc
  clear hc
  have hmod : m % n < 4294967296 := Nat.lt_trans (Nat.mod_lt _ h1) h2
  obtain ⟨ys, hb, hcb, hvb⟩ := hb
  have hlen := hcb.len_P2 (L := 32) (by rw [hvb]; exact h2)
  obtain ⟨ao2, n2, cap2, b2, off2, rfl, hs2⟩ := hb
  rw [hs2.len] at hlen
  have hn1 : 1 ≤ n2 := by
    rcases Nat.eq_zero_or_pos n2 with h0 | h0
    · have : ys = [] := List.eq_nil_of_length_eq_zero (by rw [hs2.len, h0])
      subst this; simp [val] at hvb; omega
    · exact h0
  obtain rfl : n2 = 1 := by omega
  have hy0 : nth ys 0 = n := by
    obtain ⟨y, rfl⟩ := List.length_eq_one_iff.1 hs2.len
    simpa [val, nth] using hvb
  obtain rfl := hs2.addr.resolve_right (by omega)
  have hc0 := hs2.cells 0 (by omega)
  rw [hy0] at hc0
  have HDW := Lib.hid (fun (w' : World) (hw : IsN w' va m) => divWord_any hw n h1 h2 L (by omega) hm)
  clear hm hvb hy0
  generalize m % n = r at *
  generalize m / n = qq at *
  go_enter Try.func111, Try.ntmps111
  go_wp2_with fail
  refine HC.out.mono ?_
  rintro e w1 ⟨rfl, b1⟩
  have hc1 : w1.cell? ⟨b2, off2 + 0, none⟩ = some (.int .u32 n) := by rw [b1.cell (p := ⟨b2, off2 + 0, none⟩) (hs2.lt (by omega))]; exact hc0
  rw [Nat.add_zero] at hc1
  clear hc0
  go_wp2_with fail
  refine (HDW.out _ (ha.below b1)).mono ?_
  rintro e w2 ⟨v2, rfl, i2, b2'⟩
  have B2 := nextB b1 b2'
  clear b2' hc1
  go_wp2_with fail
  refine (words_any _ _ (by omega) (by omega)).mono ?_
  rintro e w3 ⟨v3, rfl, i3, b3⟩
  rw [Int.toNat_natCast] at i3
  have B3 := nextB B2 b3
  have i23 := i2.below b3
  go_wp2
  go_ret2
  exact ⟨_, _, rfl, i23, i3, B3⟩

theorem IsN.sl {w : World} {v : Value} {n : Nat} (h : IsN w v n) : ∃ xs ao k cap b off, v = .slice ao k cap ∧ SlAt w .u32 ao k cap b off xs ∧ Can 4294967296 xs ∧ val 4294967296 xs = n := by
  obtain ⟨xs, ⟨ao, k, cap, b, off, hv, hs⟩, hc, hn⟩ := h
  exact ⟨xs, ao, k, cap, b, off, hv, hs, hc, hn⟩

/-- The shift that sets the top bit of the divisor. -/
theorem shift_top {ys : List Nat} (h : Can 4294967296 ys) (hn : ys ≠ []) :
    ∃ s : Nat, (32 : Int) - (blen (nth ys (ys.length - 1)) : Int) = (s : Int) ∧ s ≤ 31 ∧ val 4294967296 ys * P2 s < P2 (32 * ys.length) ∧ P2 (32 * ys.length - 1) ≤ val 4294967296 ys * P2 s := by
  obtain ⟨e, b1, b2⟩ := blen_top h hn
  have hl : 0 < ys.length := List.length_pos_iff.2 hn
  refine ⟨32 - blen (nth ys (ys.length - 1)), by omega, by omega, ?_, ?_⟩
  · have h1 := lt_blen (n := val 4294967296 ys)
    have h2 : val 4294967296 ys * P2 (32 - blen (nth ys (ys.length - 1))) < P2 (blen (val 4294967296 ys)) * P2 (32 - blen (nth ys (ys.length - 1))) := Nat.mul_lt_mul_of_pos_right h1 (P2_pos _)
    rw [← P2_add, e, show 32 * (ys.length - 1) + blen (nth ys (ys.length - 1)) + (32 - blen (nth ys (ys.length - 1))) = 32 * ys.length by omega] at h2
    exact h2
  · have h1 : P2 (blen (val 4294967296 ys) - 1) ≤ val 4294967296 ys := by
      rcases Nat.lt_or_ge (val 4294967296 ys) (P2 (blen (val 4294967296 ys) - 1)) with hc | hc
      · have := blen_le.2 hc; omega
      · exact hc
    have h2 := Nat.mul_le_mul_right (P2 (32 - blen (nth ys (ys.length - 1)))) h1
    rw [← P2_add, e, show 32 * (ys.length - 1) + blen (nth ys (ys.length - 1)) - 1 + (32 - blen (nth ys (ys.length - 1))) = 32 * ys.length - 1 by omega] at h2
    exact h2

/-- The estimate's needs and gifts, by the places as the program reckons them. -/
structure DivStep2 (us ys : List Nat) (i n Q : Nat) : Prop where
  pre : (nth us (i + n) * 4294967296 + nth us (i + n - 1)) * 4294967296 + nth us (i + n - 2) < (nth ys (n - 1) * 4294967296 + nth ys (n - 2) + 1) * 4294967296
  top : ∀ t, i + ys.length < t → nth us t = 0
  h1 : val 4294967296 us < (Q + 1) * (4294967296 ^ i * val 4294967296 ys)
  h2 : (Q - 1) * (4294967296 ^ i * val 4294967296 ys) ≤ val 4294967296 us
  ql : Q < 4294967296

theorem DivInv.est2 {A : Nat} {us ys qs : List Nat} {N L i n : Nat} (h : DivInv A (val 4294967296 ys) us qs N L (i + 1)) (hy : Dg 4294967296 ys) (hn : 2 ≤ n) (hp : ys.length = n) (hv1 : 2147483648 ≤ nth ys (n - 1)) :
    DivStep2 us ys i n (estQ ((nth us (i + n) * 4294967296 + nth us (i + n - 1)) * 4294967296 + nth us (i + n - 2)) (nth ys (n - 1) * 4294967296 + nth ys (n - 2))) := by
  obtain ⟨p, rfl⟩ : ∃ p, n = p + 2 := ⟨n - 2, by omega⟩
  have e := h.est hy hp hv1
  have a1 : i + (p + 2) - 1 = i + p + 1 := by omega
  have a2 : i + (p + 2) - 2 = i + p := by omega
  have a3 : p + 2 - 1 = p + 1 := by omega
  have a4 : p + 2 - 2 = p := by omega
  rw [a1, a2, a3, a4]
  exact ⟨e.pre, by rw [hp]; exact e.top, e.h1, e.h2, e.ql⟩

theorem DivInv.zero {us : List Nat} {A V N k n s : Nat} (hl : us.length = N) (hd : Dg 4294967296 us) (hv : val 4294967296 us = A) (hn : n ≤ k + 1) (h1 : A < P2 (32 * k + s)) (hs : s ≤ 31) (hn1 : 1 ≤ n) (h2 : P2 (32 * n - 1) ≤ V) :
    DivInv A V us [] N (k + 1 - n) (k + 1 - n) := by
  refine ⟨hl, hd, by simp, Dg.nil _, by simp [val, hv], ?_⟩
  rw [hv, P2_32]
  have h3 : P2 (32 * n - 1) * P2 (32 * (k + 1 - n)) ≤ V * P2 (32 * (k + 1 - n)) := Nat.mul_le_mul_right _ h2
  rw [← P2_add] at h3
  exact Nat.lt_of_lt_of_le (lt_P2_mono h1 (by omega)) h3

theorem Own.grown {w w' : World} {K : IntKind} {E : TypeId} {g g' : Nat} {xs : List Nat} (h : Own w K E g xs) (hg : w.grownBy w' (some g')) (hne : g ≠ g') : Own w' K E g xs := by
  unfold Own at h ⊢
  rw [hg.block g (Array.getElem?_eq_some_iff.1 h).1 (by intro e; exact hne (Option.some.inj e))]; exact h
theorem SlAt.grown {w w' : World} {K : IntKind} {n cap b off g' : Nat} {xs : List Nat} (h : SlAt w K (some ⟨b, off, none⟩) n cap b off xs) (hg : w.grownBy w' (some g')) (hne : b ≠ g') : SlAt w' K (some ⟨b, off, none⟩) n cap b off xs :=
  { h with cells := fun i hi => by rw [grown_cell hg hne (h.lt (by omega))]; exact h.cells i hi }
theorem SlAt.below' {w w' : World} {K : IntKind} {ao : Option Addr} {n cap b off B : Nat} {xs : List Nat} (h : SlAt w K ao n cap b off xs) (hb : Below B w w') (hB : b < B) : SlAt w' K ao n cap b off xs :=
  { h with cells := fun i hi => by rw [hb.cell (p := ⟨b, off + i, none⟩) hB]; exact h.cells i hi }
theorem grown_below {w w1 w2 : World} {g : Nat} (h : Below w.heap.size w w1) (hg : w1.grownBy w2 (some g)) (hle : w.heap.size ≤ g) : Below w.heap.size w w2 :=
  h.grown hg h.size (fun k hk => by cases hk; exact hle)
theorem Own.setOther {w : World} {K : IntKind} {E : TypeId} {g : Nat} {xs : List Nat} (h : Own w K E g xs) {g' : Nat} (o : Nat) (v : Value) (hne : g ≠ g') : Own (w.setCell ⟨g', o, none⟩ v) K E g xs := by
  unfold Own at h ⊢
  rw [Below.heap_setCell _ _ _ _ hne]; exact h
theorem SlAt.setOther {w : World} {K : IntKind} {ao : Option Addr} {n cap b off : Nat} {xs : List Nat} (h : SlAt w K ao n cap b off xs) {g' : Nat} (o : Nat) (v : Value) (hne : b ≠ g') : SlAt (w.setCell ⟨g', o, none⟩ v) K ao n cap b off xs :=
  { h with cells := fun i hi => (World.cell?_of_block (w := w) (a := ⟨b, off + i, none⟩) (Below.heap_setCell w ⟨g', o, none⟩ v b hne)).trans (h.cells i hi) }

set_option maxRecDepth 100000 in
set_option maxHeartbeats 2000000 in
theorem divMod_long {w : World} {va vb : Value} {m n : Nat} (ha : IsN w va m) (hb : IsN w vb n) (h : n ≤ m) (h1 : 4294967296 ≤ n) (L : Nat) (hL : L ≤ 4294967296) (hm : m < P2 L) :
    Calls Try.prog 111 #[va, vb] w (RetNN w (m / n) (m % n)) := by
  have hc := cmp_any ha hb
  have hge := cmpI_ge h
  have hcs : (cmpI m n) ≤ 1 := by unfold cmpI; split <;> (try split) <;> omega
  generalize cmpI m n = z at *
  have HC := Lib.hid hc
  clear hc
  obtain ⟨xs, aoa, k, capa, ba, offa, rfl, hsa, hca, hva⟩ := ha.sl
  obtain ⟨ys, aob, nb, capb, bb, offb, rfl, hsb, hcb, hvb⟩ := hb.sl
  have lk := hca.len_P2 (by rw [hva]; exact hm)
  have lkn := hcb.len_le (by omega) (show val 4294967296 ys < 4294967296 ^ xs.length by
    have := val_lt hca.1
    rw [hva] at this; rw [hvb]; omega)
  have hnb2 : 2 ≤ nb := by
    rcases Nat.lt_or_ge nb 2 with h0 | h0
    · exfalso
      have := val_lt hcb.1
      have h2 : 4294967296 ^ ys.length ≤ 4294967296 ^ 1 := Nat.pow_le_pow_right (by omega) (by rw [hsb.len]; omega)
      rw [Nat.pow_one] at h2
      omega
    · exact h0
  rw [hsa.len] at lk lkn
  rw [hsb.len] at lkn
  have hyne : ys ≠ [] := fun h0 => by have := hsb.len; rw [h0] at this; simp at this; omega
  obtain ⟨s, hs1, hs31, hs2, hs3⟩ := shift_top hcb hyne
  rw [hsb.len] at hs1 hs2 hs3
  rw [hvb] at hs2 hs3
  have hd := hcb.1.nth (by omega) (nb - 1)
  have hlea := hsa.le
  have hmaxa := hsa.max
  have hleb := hsb.le
  have hmaxb := hsb.max
  obtain rfl := hsb.addr.resolve_right (by omega)
  have hc1 := hsb.cells (nb - 1) (by omega)
  have hbb := hsb.lt (by omega)
  have hAs : m * P2 s < P2 (32 * k + s) := by
    have h2 := val_lt hca.1
    rw [hva, hsa.len, P2_32] at h2
    rw [P2_add]
    exact Nat.mul_lt_mul_of_pos_right h2 (P2_pos s)
  have HS1 := Lib.hid hs1
  have HAs := Lib.hid hAs
  have HS2 := Lib.hid hs2
  have HS3 := Lib.hid hs3
  have HM := Lib.hid hm
  have HNM := Lib.hid h
  have H1 := Lib.hid h1
  clear hs1 hva hvb hyne hAs hs2 hs3 hm h h1 hca hcb hsa hsb
  generalize nth ys (nb - 1) = d at *
  go_enter Try.func111, Try.ntmps111
  go_wp2_with fail
  refine HC.out.mono ?_
  rintro e w1 ⟨rfl, b1⟩
  have hc2 : w1.cell? ⟨bb, offb + (nb - 1), none⟩ = some (.int .u32 d) := by rw [b1.cell (p := ⟨bb, offb + (nb - 1), none⟩) hbb]; exact hc1
  clear hc1
  go_wp2_with fail
  refine (Try.bits_LeadingZeros32 _ _ (by omega) (by omega)).mono ?_
  rintro e w1' ⟨rfl, hw⟩
  subst hw
  rw [Int.toNat_natCast, bitLen_eq (by omega), HS1.out]
  go_wp2_with fail
  refine (lsh_any (hb.below b1) (s : Int) (by omega) (by omega) (L + 32) (by omega) (lt_P2_mono (Nat.lt_of_le_of_lt HNM.out HM.out) (by omega))).mono ?_
  rintro e w2 ⟨vv, rfl, iv, b2⟩
  rw [Int.toNat_natCast] at iv
  have B2 := nextB b1 b2
  clear hc2 b1 b2
  obtain ⟨vs, aov, nv, capv, bv, offv, rfl, hsv, hcv, hvv⟩ := iv.sl
  obtain ⟨hvl, hvt⟩ := top_set hcv (k := nb) (by omega) (by rw [hvv]; exact HS2.out) (by rw [hvv]; exact HS3.out)
  rw [hsv.len] at hvl
  subst hvl
  obtain rfl := hsv.addr.resolve_right (by omega)
  have hlev := hsv.le
  have hmaxv := hsv.max
  have hbv := hsv.lt (by omega)
  have HVT := Lib.hid hvt
  have HVV := Lib.hid hvv
  clear hvt hvv iv
  go_wp2_with (first | (at_make; refine wpList_make_nums _ rfl _ _ 23 rfl 115 .u32 4 Try.underlying23 (by kernel_rfl) .i64 .i64 _ _ (k + 1) rfl rfl rfl rfl (by omega) (by omega) ?_; intro w3 hown3 b3))
  have B3 := nextB B2 b3
  refine (lsh_any (ha.below B3) (s : Int) (by omega) (by omega) (L + 32) (by omega) (lt_P2_mono HM.out (by omega))).mono ?_
  rintro e w4 ⟨va, rfl, iu, b4⟩
  rw [Int.toNat_natCast] at iu
  have B4 := nextB B3 b4
  have hown4 := hown3.below b4 hown3.lt
  have hsv4 := (hsv.below b3).below b4
  have hg2 := hown3.lt
  clear hown3
  obtain ⟨us, aou, ku, capu, bu, offu, rfl, hsu, hcu, hvu⟩ := iu.sl
  have lku := hcu.len_P2 (by rw [hvu]; exact HAs.out)
  rw [hsu.len] at lku
  go_wp2_with (with_reducible refine wpList_copy_nums rfl (.tmp 49) (.tmp 52) 23 23 rfl 115 Try.underlying23 ?c1 ?d1 ?d2 ?d3 ?c2 .u32 ?d4 ?d5 ?d6 bu offu us ?c3 ?c4 w2.heap.size 0 (List.replicate (k + 1) 0) 115 ?c5 ku ?c6 ?c7 ?c8 w2.heap.size w4 ?c9 ?c10 ?c11)
  case c1 => kernel_rfl
  case c2 => exact rfl
  case c3 => exact rfl
  case c4 => exact hsu
  case c5 => exact hown4
  case c6 => exact (Nat.min_eq_left (by omega)).symm
  case c7 => exact fun _ => rfl
  case c8 => simp; omega
  case c9 => exact Below.refl _ _
  case c10 => exact Nat.le_refl _
  intro w5 hown5 b5
  rw [List.take_of_length_le (by rw [hsu.len]; omega)] at hown5
  have hsv5 := hsv4.below' b5 hbv
  have B5 := B4.trans (b5.mono B2.size)
  have HI0 := Lib.hid (DivInv.zero (V := val 4294967296 vs) (N := k + 1) (k := k) (n := nv) (s := s) (us := us ++ List.replicate (k + 1 - ku) 0) (by rw [List.length_append, hsu.len, List.length_replicate]; omega)
    (hcu.1.append (Dg.zeros (by omega) _)) (by rw [val_append, val_zeros, Nat.mul_zero, Nat.add_zero, hvu]) (by omega) HAs.out hs31 (by omega) (by rw [HVV.out]; exact HS3.out))
  generalize us ++ List.replicate (k + 1 - ku) 0 = U0 at *
  clear hown4 hsv4 hsv b5 b4 b3 hsu hcu hvu lku
  go_wp2_with (first | (at_make; refine wpList_make_nums _ rfl _ _ 23 rfl 115 .u32 4 Try.underlying23 (by kernel_rfl) .i64 .i64 _ _ (k + 1 - nv) rfl rfl (by omega) (by omega) (by omega) (by omega) ?_; intro w6 hown6 b6))
  have hgq : w2.heap.size < w5.heap.size := hown5.lt
  have hu6 := hown5.below b6 hgq
  have hv6 := hsv5.below' b6 (by omega)
  have B6 := nextB B5 b6
  have hw2 := B2.size
  have hbv2 : bv ≠ w2.heap.size := by omega
  have hbvq : bv ≠ w5.heap.size := by omega
  clear hown5 hsv5 b6
  obtain ⟨gu, hgu⟩ : ∃ gu, gu = w2.heap.size := ⟨_, rfl⟩
  obtain ⟨gq, hgq'⟩ : ∃ gq, gq = w5.heap.size := ⟨_, rfl⟩
  rw [← hgu] at hgq hbv2 hu6 hw2 ⊢
  rw [← hgq'] at hgq hown6 hbvq ⊢
  have hgqs : w.heap.size ≤ gq := by rw [hgq']; exact B5.size
  clear hgu hgq'
  go_loopw [13] (fun i wr => ∃ (j : Nat) (us qs : List Nat), j ≤ k + 1 - nv ∧ i = .int .i64 ((j : Int) - 1) ∧ DivInv (m * P2 s) (val 4294967296 vs) us qs (k + 1) (k + 1 - nv) j ∧ Own wr .u32 115 gu us ∧ Own wr .u32 115 gq (List.replicate j 0 ++ qs) ∧
      SlAt wr .u32 (some ⟨bv, offv, none⟩) nv capv bv offv vs ∧ Below w.heap.size w wr)
    (fun i _ => (intOf i + 1).toNat)
  case atStart =>
    refine ⟨k + 1 - nv, U0, [], Nat.le_refl _, ?_, HI0.out, hu6, by simpa using hown6, hv6, B6⟩
    refine congrArg _ ?_; omega
  case round =>
    obtain ⟨j, us, qs, hj, rfl, hinv, hou, hoq, hv, hB⟩ := hrel
    have hsv' := hv6
    clear hown6 hu6 B6 hv6
    by_cases h0 : j = 0
    · subst h0
      rw [List.replicate_zero, List.nil_append] at hoq
      have hd0 : decide ((0 : Int) ≤ ((0 : Nat) : Int) - 1) = false := rfl
      have hinv2 : DivInv (m * P2 s) (n * P2 s) us qs (k + 1) (k + 1 - nv) 0 := by rw [← HVV.out]; exact hinv
      obtain ⟨hq1, hu1⟩ := hinv2.done (by have := H1.out; omega)
      clear hinv2
      have hul : val 4294967296 us < 4294967296 ^ nv := by
        have h1 := hinv.lt
        have h2 := val_lt hcv.1
        rw [hsv'.len] at h2
        rw [Nat.pow_zero, Nat.mul_one] at h1
        omega
      have hut : val 4294967296 (us.take nv) = m % n * P2 s := by rw [val_take_of_zero (nth_zero_of_lt (by omega) hul), hu1]
      obtain ⟨tq, N0, i0⟩ := norm_part (hoq.slAt (n := k + 1 - nv) hinv.lenq (by omega) hinv.dgq.wf32) hinv.dgq
      obtain ⟨tu, N1, i1⟩ := norm_part ((hou.slAt (n := k + 1) hinv.len (by omega) hinv.dg.wf32).head (m := nv) (by omega)) (hinv.dg.take nv)
      rw [hq1] at i0
      rw [hut] at i1
      have hrs := fun (W : World) (hW : IsN W (.slice (some ⟨gu, 0, none⟩) tu tu) (m % n * P2 s)) => rsh_any hW (s : Int) (by omega) (by omega) (L + 32) (by omega) (lt_P2_mono (mul_lt_P2 (Nat.lt_of_le_of_lt (Nat.mod_le _ _) HM.out) (show P2 s < P2 (s + 1) by rw [P2_succ]; have := P2_pos s; omega)) (by omega))
      rw [Int.toNat_natCast, Nat.mul_div_cancel _ (P2_pos s)] at hrs
      have HR := Lib.hid hrs
      clear hrs hq1 hul hut hu1 hinv
      go_wp2_with fail
      refine wp_region_still_tail 7 (by kernel_rfl) (by kernel_rfl) ?_
      simp only [List.take_succ_cons, List.take_zero, List.drop_succ_cons, List.drop_zero]
      still_step
      still_call (N0.out _ rfl)
      have hcut : (nv : Int) ≤ (k : Int) + 1 := by omega
      still_step
      still_step
      still_step
      still_call (N1.out _ rfl)
      still_step
      refine wpStill_nil ?_
      go_wp2_with fail
      have hd1 : Below wr.heap.size wr wr.drew := (Below.refl _ _).drew
      refine (HR.out _ (i1.below hd1)).mono ?_
      rintro e w9 ⟨v9, rfl, i9, b9⟩
      have i09 := (i0.below hd1).below b9
      have hB9 := nextB (nextB hB hd1) b9
      go_wp2
      go_ret2
      exact ⟨_, _, rfl, i09, i9, hB9⟩
    · obtain ⟨i, rfl⟩ : ∃ i, j = i + 1 := ⟨j - 1, by omega⟩
      rw [show ((i + 1 : Nat) : Int) - 1 = (i : Int) by omega]
      have hds := hinv.est2 hcv.1 (by omega) hsv'.len HVT.out
      have HD := Lib.hid hds
      have hql := hds.ql
      clear hds
      have hlu := hinv.len
      have HLU := Lib.hid hlu
      have r0 : wr.cell? ⟨gu, i + nv, none⟩ = some (.int .u32 (nth us (i + nv))) := hou.cell (by omega)
      have r1 : wr.cell? ⟨gu, i + nv - 1, none⟩ = some (.int .u32 (nth us (i + nv - 1))) := hou.cell (by omega)
      have r2 : wr.cell? ⟨gu, i + nv - 2, none⟩ = some (.int .u32 (nth us (i + nv - 2))) := hou.cell (by omega)
      have r3 := hv.cells (nv - 1) (by omega)
      have r4 := hv.cells (nv - 2) (by omega)
      have d0 := hinv.dg.nth (by omega) (i + nv)
      have d1 := hinv.dg.nth (by omega) (i + nv - 1)
      have d2 := hinv.dg.nth (by omega) (i + nv - 2)
      have d3 := hcv.1.nth (by omega) (nv - 1)
      have d4 := hcv.1.nth (by omega) (nv - 2)
      have hest := fun w => estimate_any w _ _ _ _ _ d0 d1 d2 HVT.out d3 d4 HD.out.pre
      have HEst := Lib.hid hest
      clear hest hlu
      obtain ⟨Q, hQ⟩ : ∃ Q, Q = estQ ((nth us (i + nv) * 4294967296 + nth us (i + nv - 1)) * 4294967296 + nth us (i + nv - 2)) (nth vs (nv - 1) * 4294967296 + nth vs (nv - 2)) := ⟨_, rfl⟩
      rw [← hQ] at HD HEst hql
      clear hQ
      go_wp2
      go_quiet ((go_at_call 130; (with_reducible exact Calls.quiet_of (HEst.out _))))
      go_wp2_with fail
      have hlv : vs.length = nv := hsv'.len
      have hr := fun q => reduce_any (w := wr.drewN q) (g := gu) (cap := k + 1) (us := us) (ys := vs) (q := Q) (i := i) (vv := .slice (some ⟨bv, offv, none⟩) nv capv) (hou.drewN q) (Nat.le_of_eq HLU.out) (by omega) hinv.dg (hv.drewN q).sl hcv.1 hql (by rw [HLU.out, hlv]; omega)
        (by
          intro ao n cap b off h e hn
          cases e
          rcases h.addr with h' | h'
          · cases h'; exact hbv2
          · cases h'.1) HD.out.top HD.out.h1 HD.out.h2
      rw [HLU.out] at hr
      refine (hr _).mono ?_
      rintro e w8 ⟨zs, q', rfl, hpost, ho8, hg8⟩
      clear hr hlv r0 r1 r2 r3 r4
      have hoq8 := (hoq.drewN _).grown hg8 (by omega)
      have hv8 := (hv.drewN _).grown hg8 hbv2
      have hB8 := grown_below (below_drewN' hB _) hg8 (by omega)
      have hqc : w8.cell? ⟨gq, i, none⟩ = some (.int .u32 (nth (List.replicate (i + 1) 0 ++ qs) i)) := hoq8.cell (by rw [List.length_append, List.length_replicate]; omega)
      have hqf := hoq8.frozen i
      have HN := Lib.hid (hinv.step (by omega) hpost)
      have hq' := hpost.q
      go_wp2
      go_roundw
      case rel =>
        refine ⟨i, zs, q' :: qs, by omega, rfl, HN.out, ho8.setOther i _ (by omega), ?_, hv8.setOther i _ hbvq, hB8.setCell hgqs _⟩
        rw [← set_front]
        exact hoq8.seti i _ rfl
      case measure => simp [intOf]

theorem divMod_any {w : World} {va vb : Value} {m n : Nat} (ha : IsN w va m) (hb : IsN w vb n) (hn : 0 < n) (L : Nat) (hL : L ≤ 4294967296) (hm : m < P2 L) :
    Calls Try.prog 111 #[va, vb] w (RetNN w (m / n) (m % n)) := by
  rcases Nat.lt_or_ge m n with h | h
  · exact divMod_less ha hb h
  · rcases Nat.lt_or_ge n 4294967296 with h1 | h1
    · exact divMod_word ha hb h hn h1 L hL hm
    · exact divMod_long ha hb h h1 L hL hm
#print axioms divMod_any

end Go.Proofs.Ytppbhjhbaknidaa
