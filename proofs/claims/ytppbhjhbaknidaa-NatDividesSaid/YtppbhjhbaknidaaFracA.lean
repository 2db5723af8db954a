/-
  The contracts of the program's fractions: den, lowest, within, NewFrac. Condition: numbers of at most 2^28 bits.
-/
import Derived.Test.YtppbhjhbaknidaaMeth
import Derived.Deep.RegionHeld3
set_option linter.unusedVariables false
set_option linter.unusedSimpArgs false
namespace Go.Proofs.Ytppbhjhbaknidaa
open Go.RowKit

/-- A fraction n by d: the denominator is kept less 1. -/
def IsF (w : World) (v : Value) (n d : Nat) : Prop := ∃ a b, v = .agg #[a, b] ∧ IsN w a n ∧ IsN w b (d - 1) ∧ 0 < d
theorem IsF.below {w w' : World} {v : Value} {n d : Nat} (h : IsF w v n d) (hb : Below w.heap.size w w') : IsF w' v n d :=
  let ⟨a, b, h1, h2, h3, h4⟩ := h
  ⟨a, b, h1, h2.below hb, h3.below hb, h4⟩
theorem IsF.zero (w : World) : IsF w (.agg #[.slice none 0 0, .slice none 0 0]) 0 1 := ⟨_, _, rfl, IsN.zero w, IsN.zero w, by omega⟩
theorem IsF.slice {w : World} {v : Value} {n d : Nat} (h : IsF w v n d) : ∃ ao k cap ao2 k2 cap2, v = .agg #[.slice ao k cap, .slice ao2 k2 cap2] ∧ IsN w (.slice ao k cap) n ∧ IsN w (.slice ao2 k2 cap2) (d - 1) ∧ 0 < d := by
  obtain ⟨a, b, rfl, ha, hb, h⟩ := h
  obtain ⟨ao, k, cap, rfl⟩ := ha.slice
  obtain ⟨ao2, k2, cap2, rfl⟩ := hb.slice
  exact ⟨ao, k, cap, ao2, k2, cap2, rfl, ha, hb, h⟩

/-- A box of a fraction. -/
structure Fx (w : World) (R : Nat) (s t : Value) : Prop where
  blk : Blk w R #[s, t] 50
  cell0 : w.cell? ⟨R, 0, none⟩ = some s
  cell1 : w.cell? ⟨R, 1, none⟩ = some t
  free0 : w.frozen? ⟨R, 0, none⟩ = false
  free1 : w.frozen? ⟨R, 1, none⟩ = false
theorem Blk.fx {w : World} {R : Nat} {s t : Value} (h : Blk w R #[s, t] 50) : Fx w R s t := ⟨h, (h.cell 0).trans rfl, (h.cell 1).trans rfl, h.frozen 0, h.frozen 1⟩
theorem Fx.below {w w' : World} {R : Nat} {s t : Value} (h : Fx w R s t) (hb : Below w.heap.size w w') : Fx w' R s t := (h.blk.below hb).fx
theorem Fx.lt {w : World} {R : Nat} {s t : Value} (h : Fx w R s t) : R < w.heap.size := h.blk.lt
theorem prof (w : World) (s t : Value) : Below w.heap.size w (w.alloc (.cells #[s, t] 50)) ∧ Fx (w.alloc (.cells #[s, t] 50)) w.heap.size s t :=
  ⟨(Below.refl _ _).alloc (Nat.le_refl _) _, (Blk.new _ _ _).fx⟩

set_option maxHeartbeats 400000 in
theorem den_any {w : World} {f : Value} {n d : Nat} (hf : IsF w f n d) (L : Nat) (hL : L ≤ 1073741824) (hd : d < P2 L) :
    Calls Try.prog 109 #[f] w (RetN w d) := by
  obtain ⟨ao, k, cap, ao2, k2, cap2, rfl, ia, ib, h0⟩ := hf.slice
  obtain ⟨hB, kf⟩ := prof w (.slice ao k cap) (.slice ao2 k2 cap2)
  have ib1 := ib.below hB
  have hp : P2 L < P2 (L + 1) := by have := P2_succ L; have := P2_pos L; omega
  have hd1 : d - 1 < P2 (L + 1) := by omega
  have h1 : 1 < P2 (L + 1) := by have := P2_mono (show 1 ≤ L + 1 by omega); have e : P2 1 = 2 := rfl; omega
  have HE := Lib.hid (show d - 1 + 1 = d by omega)
  clear hp
  obtain ⟨wo, hwo⟩ : ∃ wo : World, wo = w.alloc (.cells #[.slice ao k cap, .slice ao2 k2 cap2] 50) := ⟨_, rfl⟩
  go_enter Try.func109, Try.ntmps109
  go_wp2_with fail
  rw [← hwo] at hB kf ib1 ⊢
  clear hwo
  have c0 := kf.cell1
  have hlt := kf.lt
  go_region_held3 (fun w' => w'.cell? ⟨w.heap.size, 1, none⟩ = some (.slice ao2 k2 cap2) ∧ Below wo.heap.size wo w')
    (first
      | exact ⟨c0, (Below.refl _ _).drew⟩
      | (go_split_ands; exact ⟨((nextB (by assumption) b1).cell (p := ⟨w.heap.size, 1, none⟩) hlt).trans c0, nextB (by assumption) b1⟩)
      | (go_split_ands; exact ⟨((nextB (by assumption) b2).cell (p := ⟨w.heap.size, 1, none⟩) hlt).trans c0, nextB (by assumption) b2⟩))
    (first
      | (go_at_call 101; refine (words_any 1 _ (by omega) (by omega)).mono ?_; rintro e w1 ⟨v1, rfl, i1, b1⟩)
      | (go_at_call 99; go_split_ands; refine (add_any (ib1.below (by assumption)) i1 (L + 1) (by omega) hd1 h1).mono ?_; rintro e w2 ⟨v2, rfl, i2, b2⟩))
  rw [show (1 : Int).toNat = 1 from rfl, HE.out] at i2
  go_wp2
  go_ret
  exact ⟨_, rfl, i2, hB.trans ((nextB (nextB (below_drew0 _ 1) b1) b2).mono hB.size)⟩

theorem IsF.of {w : World} {a b : Value} {n d : Nat} (ha : IsN w a n) (hb : IsN w b (d - 1)) (hd : 0 < d) : IsF w (.agg #[a, b]) n d := ⟨a, b, rfl, ha, hb, hd⟩

/-- A fraction alone. -/
def RetF (w : World) (n d : Nat) (e : Ending) (w' : World) : Prop := ∃ v, e = .returned v ∧ IsF w' v n d ∧ Below w.heap.size w w'

theorem gcd_div_pos {m n : Nat} (hn : 0 < n) : 0 < n / Nat.gcd m n := Nat.div_pos (Nat.le_of_dvd hn (Nat.gcd_dvd_right m n)) (Nat.gcd_pos_of_pos_right m hn)
theorem cmpI_ne {m n : Nat} (h : m ≠ n) : (cmpI m n == 0) = false := by
  unfold cmpI
  by_cases h1 : m < n
  · rw [if_pos h1]; rfl
  · rw [if_neg h1, if_pos (by omega)]; rfl
theorem cmpI_self (m : Nat) : cmpI m m = 0 := by simp [cmpI]
theorem IsN.setF {w : World} {s a b : Value} {n R : Nat} (h : IsN w s n) (hb : Fx w R a b) (hn : NoInt #[a, b]) (i : Nat) (v : Value) : IsN (w.setCell ⟨R, i, none⟩ v) s n := h.setBlk hb.blk hn i v
theorem Fx.set0 {w : World} {R : Nat} {a b : Value} (h : Fx w R a b) (v : Value) : Fx (w.setCell ⟨R, 0, none⟩ v) R v b := (show Blk (w.setCell ⟨R, 0, none⟩ v) R #[v, b] 50 from h.blk.set 0 v).fx

set_option maxHeartbeats 1000000 in
theorem lowest_any {w : World} {va vb : Value} {m n : Nat} (ha : IsN w va m) (hb : IsN w vb n) (hn0 : 0 < n) (L : Nat) (hL : L ≤ 4294967296) (hm : m < P2 L) (hn : n < P2 L) :
    Calls Try.prog 108 #[va, vb] w (RetF w (m / Nat.gcd m n) (n / Nat.gcd m n)) := by
  obtain ⟨hB, kf⟩ := prof w (.slice none 0 0) (.slice none 0 0)
  have hg0 : 0 < Nat.gcd m n := Nat.gcd_pos_of_pos_right m hn0
  have hq := gcd_div_pos (m := m) hn0
  have hqn : n / Nat.gcd m n < P2 L := Nat.lt_of_le_of_lt (Nat.div_le_self _ _) hn
  have h1m : Nat.gcd m n = 1 → m / Nat.gcd m n = m ∧ n / Nat.gcd m n = n := fun h => by rw [h, Nat.div_one, Nat.div_one]; exact ⟨rfl, rfl⟩
  have ia := ha.below hB
  have ib := hb.below hB
  have HQ := Lib.hid h1m
  clear h1m
  obtain ⟨wo, hwo⟩ : ∃ wo : World, wo = w.alloc (.cells #[.slice none 0 0, .slice none 0 0] 50) := ⟨_, rfl⟩
  go_enter Try.func108, Try.ntmps108
  go_wp2_with fail
  rw [← hwo] at hB kf ia ib ⊢
  clear hwo
  refine (gcd_any ia ib L hL hm hn).mono ?_
  rintro e w1 ⟨vg, rfl, ig, b1⟩
  generalize hgg : Nat.gcd m n = g at *
  have HG := Lib.hid hgg
  clear hgg
  replace ia := ia.below b1
  replace ib := ib.below b1
  replace kf := kf.below b1
  replace hB := nextB hB b1
  clear b1
  go_wp2_with fail
  refine (words_any 1 _ (by omega) (by omega)).mono ?_
  rintro e w2 ⟨v1, rfl, i1, b2⟩
  rw [show (1 : Int).toNat = 1 from rfl] at i1
  replace ia := ia.below b2
  replace ib := ib.below b2
  replace ig := ig.below b2
  replace kf := kf.below b2
  replace hB := nextB hB b2
  clear b2
  go_wp2_with fail
  refine (cmp_any ig i1).mono ?_
  rintro e w3 ⟨rfl, b3⟩
  replace ia := ia.below b3
  replace ib := ib.below b3
  replace ig := ig.below b3
  replace kf := kf.below b3
  replace hB := nextB hB b3
  clear b3 i1
  by_cases h1 : g = 1
  · obtain ⟨e1, e2⟩ := HQ.out h1
    have E1 := Lib.hid e1
    have E2 := Lib.hid e2
    rw [e2] at hqn hq
    rw [h1, cmpI_self]
    clear e1 e2 h1 HG HQ
    go_wp2_with fail
    refine (words_any 1 _ (by omega) (by omega)).mono ?_
    rintro e w4 ⟨v1, rfl, i1, b4⟩
    rw [show (1 : Int).toNat = 1 from rfl] at i1
    replace ia := ia.below b4
    replace ib := ib.below b4
    replace kf := kf.below b4
    replace hB := nextB hB b4
    clear b4
    go_wp2_with fail
    refine (sub_any ib i1 L (by omega) hn (by omega)).mono ?_
    rintro e w5 ⟨v5, rfl, i5, b5⟩
    replace ia := ia.below b5
    replace kf := kf.below b5
    replace hB := nextB hB b5
    clear b5
    obtain ⟨ao, k, cap, rfl⟩ := ia.slice
    obtain ⟨ao2, k2, cap2, rfl⟩ := i5.slice
    have c0 := kf.cell0
    have c1 := kf.cell1
    have f0 := kf.free0
    have f1 := kf.free1
    have kg := kf.set0 (.slice ao k cap)
    have d1 := kg.cell1
    have g1 := kg.free1
    have d0 := kg.cell0
    go_wp2
    refine bodyPost_ret (v := .agg #[.slice ao k cap, .slice ao2 k2 cap2]) (by simp [results, Try.results108, go_sem, c0, c1, d0, d1]) rfl ⟨_, rfl, by rw [E1.out, E2.out]; exact IsF.of ((ia.setF kf NoInt.two 0 _).setF kg NoInt.two 1 _) ((i5.setF kf NoInt.two 0 _).setF kg NoInt.two 1 _) hq, (hB.setCell (Nat.le_refl _) _).setCell (Nat.le_refl _) _⟩
  · have hne := cmpI_ne h1
    generalize cmpI g 1 = z at hne ⊢
    clear h1 HG HQ
    go_wp2_with fail
    refine (divMod_any ia ig hg0 L hL hm).mono ?_
    rintro e w4 ⟨va2, vr, rfl, ia2, -, b4⟩
    replace ib := ib.below b4
    replace ig := ig.below b4
    replace kf := kf.below b4
    replace hB := nextB hB b4
    clear b4 ia
    go_wp2_with fail
    refine (divMod_any ib ig hg0 L hL hn).mono ?_
    rintro e w5 ⟨vb2, vr2, rfl, ib2, -, b5⟩
    replace ia2 := ia2.below b5
    replace kf := kf.below b5
    replace hB := nextB hB b5
    clear b5 ib ig
    go_wp2_with fail
    refine (words_any 1 _ (by omega) (by omega)).mono ?_
    rintro e w4 ⟨v1, rfl, i1, b4⟩
    rw [show (1 : Int).toNat = 1 from rfl] at i1
    replace ia2 := ia2.below b4
    replace ib2 := ib2.below b4
    replace kf := kf.below b4
    replace hB := nextB hB b4
    clear b4
    go_wp2_with fail
    refine (sub_any ib2 i1 L (by omega) hqn (by omega)).mono ?_
    rintro e w5 ⟨v5, rfl, i5, b5⟩
    replace ia2 := ia2.below b5
    replace kf := kf.below b5
    replace hB := nextB hB b5
    clear b5
    obtain ⟨ao, k, cap, rfl⟩ := ia2.slice
    obtain ⟨ao2, k2, cap2, rfl⟩ := i5.slice
    have c0 := kf.cell0
    have c1 := kf.cell1
    have f0 := kf.free0
    have f1 := kf.free1
    have kg := kf.set0 (.slice ao k cap)
    have d1 := kg.cell1
    have g1 := kg.free1
    have d0 := kg.cell0
    go_wp2
    refine bodyPost_ret (v := .agg #[.slice ao k cap, .slice ao2 k2 cap2]) (by simp [results, Try.results108, go_sem, c0, c1, d0, d1]) rfl ⟨_, rfl, IsF.of ((ia2.setF kf NoInt.two 0 _).setF kg NoInt.two 1 _) ((i5.setF kf NoInt.two 0 _).setF kg NoInt.two 1 _) hq, (hB.setCell (Nat.le_refl _) _).setCell (Nat.le_refl _) _⟩


/-- A fraction and the error code er (0 where there is none; then the fraction is n by d, else 0). -/
def RetFE (w : World) (n d er : Nat) (e : Ending) (w' : World) : Prop := ∃ v, e = .returned (.tuple #[v, .int .i64 er]) ∧ IsF w' v (if er = 0 then n else 0) (if er = 0 then d else 1) ∧ Below w.heap.size w w'

set_option maxHeartbeats 400000 in
theorem NewFrac_zero {w : World} {a b : Value} {m : Nat} (ha : IsNat w a m) (hb : IsNat w b 0) :
    Calls Try.prog 46 #[a, b] w (RetFE w 0 0 11) := by
  obtain ⟨ao, k, cap, rfl, ia⟩ := ha.slice
  obtain ⟨ao2, k2, cap2, rfl, ib, hk, -⟩ := hb.len
  obtain rfl := hk.2 rfl
  clear ha hb hk
  obtain ⟨hB, ka, kb⟩ := pro2 w (.slice ao k cap) (.slice ao2 0 cap2)
  go_enter Try.func46, Try.ntmps46
  go_wp2
  refine bodyPost_ret (v := .tuple #[.agg #[.slice none 0 0, .slice none 0 0], .int .i64 (11 : Nat)]) (by simp [results, Try.results46, go_sem]) rfl ⟨_, rfl, IsF.zero _, hB.alloc (by simp; omega) _⟩

set_option maxHeartbeats 400000 in
theorem NewFrac_any {w : World} {a b : Value} {m n : Nat} (ha : IsNat w a m) (hb : IsNat w b n) (hn0 : 0 < n) (L : Nat) (hL : L ≤ 4294967296) (hm : m < P2 L) (hn : n < P2 L) :
    Calls Try.prog 46 #[a, b] w (RetFE w (m / Nat.gcd m n) (n / Nat.gcd m n) 0) := by
  obtain ⟨ao, k, cap, rfl, ia⟩ := ha.slice
  obtain ⟨ao2, k2, cap2, rfl, ib, hk, hk2⟩ := hb.len
  have hd : ((k2 : Int) == 0) = false := by
    rw [beq_eq_false_iff_ne]; intro hc; have := hk.1 (by omega); omega
  clear ha hb hk
  obtain ⟨hB, ka, kb⟩ := pro2 w (.slice ao k cap) (.slice ao2 k2 cap2)
  have hz : ((w.alloc (.cells #[.slice ao k cap] 25)).alloc (.cells #[.slice ao2 k2 cap2] 25)).heap.size = w.heap.size + 1 + 1 := by simp
  obtain ⟨hC, kf⟩ := prof ((w.alloc (.cells #[.slice ao k cap] 25)).alloc (.cells #[.slice ao2 k2 cap2] 25)) (.slice none 0 0) (.slice none 0 0)
  rw [hz] at kf
  replace hB := nextB hB hC
  clear hC hz ka kb
  go_enter Try.func46, Try.ntmps46
  go_wp2_with fail
  refine (lowest_any (ia.below hB) (ib.below hB) hn0 L hL hm hn).mono ?_
  rintro e w1 ⟨v, rfl, iv, b1⟩
  generalize m / Nat.gcd m n = p at *
  generalize n / Nat.gcd m n = q at *
  obtain ⟨ao3, k3, cap3, ao4, k4, cap4, rfl, i3, i4, hq⟩ := iv.slice
  replace hB := nextB hB b1
  replace kf := kf.below b1
  have c0 := kf.cell0
  have c1 := kf.cell1
  have f0 := kf.free0
  have f1 := kf.free1
  have kg := kf.set0 (.slice ao3 k3 cap3)
  have d1 := kg.cell1
  have g1 := kg.free1
  have d0 := kg.cell0
  go_wp2
  refine bodyPost_ret (v := .tuple #[.agg #[.slice ao3 k3 cap3, .slice ao4 k4 cap4], .int .i64 (0 : Nat)]) (by simp [results, Try.results46, go_sem, c0, c1, d0, d1]) rfl ⟨_, rfl, IsF.of ((i3.setF kf NoInt.two 0 _).setF kg NoInt.two 1 _) ((i4.setF kf NoInt.two 0 _).setF kg NoInt.two 1 _) hq, (hB.setCell (by simp; omega) _).setCell (by simp; omega) _⟩

theorem txt_size {n L : Nat} (h : n < P2 L) : (txt n).size ≤ L + 1 := by
  have e : (txt n).size = (decs n).length := by simp [txt, bstr, ByteArray.size]
  rw [e]
  unfold decs
  split
  · simp
  · rw [List.length_reverse]; have := rdec_len h; omega

/-- The text of a fraction. -/
def ftxt (n d : Nat) : ByteArray := if d = 1 then txt n else txt n ++ (⟨#[47]⟩ ++ txt d)

set_option maxHeartbeats 1000000 in
theorem FString_any {w : World} {f : Value} {n d : Nat} (hf : IsF w f n d) (L : Nat) (hL : L ≤ 1073741824) (hn : n < P2 L) (hd : d < P2 L) :
    Calls Try.prog 47 #[f] w (RetS w (ftxt n d)) := by
  obtain ⟨ao, k, cap, ao2, k2, cap2, rfl, ia, ib, h0⟩ := hf.slice
  obtain ⟨hB, kf⟩ := prof w (.slice ao k cap) (.slice ao2 k2 cap2)
  have hk : k2 = 0 ↔ d = 1 := by
    obtain ⟨ao', k', cap', hv, hk, -⟩ := ib.len
    cases hv
    omega
  replace ia := ia.below hB
  replace hf := hf.below hB
  clear ib
  go_enter Try.func47, Try.ntmps47
  go_wp2_with fail
  obtain ⟨wo, hwo⟩ : ∃ wo : World, wo = w.alloc (.cells #[.slice ao k cap, .slice ao2 k2 cap2] 50) := ⟨_, rfl⟩
  rw [← hwo] at hB kf ia hf ⊢
  clear hwo
  refine (String_any ⟨_, rfl, ia⟩ L hL hn).mono ?_
  rintro e w1 ⟨rfl, b1⟩
  replace hB := nextB hB b1
  replace kf := kf.below b1
  replace hf := hf.below b1
  have c0 := kf.cell0
  have c1 := kf.cell1
  by_cases hd1 : d = 1
  · have hk0 := hk.2 hd1
    subst hk0
    have HT := Lib.hid (show ftxt n d = txt n by unfold ftxt; rw [if_pos hd1])
    clear hk hd1
    go_wp2
    go_ret
    exact ⟨by rw [HT.out]; rfl, hB⟩
  · have hk0 : 0 < k2 := Nat.pos_of_ne_zero fun h => hd1 (hk.1 h)
    have HT := Lib.hid (show ftxt n d = txt n ++ (⟨#[47]⟩ ++ txt d) by unfold ftxt; rw [if_neg hd1])
    clear hk hd1
    go_wp2_with fail
    refine (den_any hf L hL hd).mono ?_
    rintro e w2 ⟨v2, rfl, i2, b2⟩
    obtain ⟨ao5, k5, cap5, rfl⟩ := i2.slice
    replace hB := nextB hB b2
    go_wp2_with fail
    refine (String_any ⟨_, rfl, i2⟩ L hL hd).mono ?_
    rintro e w3 ⟨rfl, b3⟩
    replace hB := nextB hB b3
    have z1 := txt_size hn
    have z2 := txt_size hd
    go_wp2
    go_ret
    exact ⟨by rw [HT.out]; rfl, hB⟩

end Go.Proofs.Ytppbhjhbaknidaa
