/-
  The contracts of the program's Num, Den, Floor, and of the specification's fractions: Low, Floor, Text. Condition: numbers of at most 2^28 bits. The contracts of the specification's Low and Text of fractions, and of the statements' same. Condition: numbers of at most 2^28 bits. The walk of the law NatFracs. No condition.
-/
import Derived.Test.YtppbhjhbaknidaaZm
set_option linter.unusedVariables false
set_option linter.unusedSimpArgs false

/-
  The contracts of the program's Num, Den, Floor, and of the specification's fractions: Low, Floor, Text. Condition: numbers of at most 2^28 bits.
-/
set_option linter.unusedVariables false
set_option linter.unusedSimpArgs false
namespace Go.Proofs.Ytppbhjhbaknidaa
open Go.RowKit

set_option maxHeartbeats 400000 in
theorem FNum_any {w : World} {f : Value} {n d : Nat} (hf : IsF w f n d) :
    Calls Try.prog 50 #[f] w (RetNat w n) := by
  obtain ⟨ao, k, cap, ao2, k2, cap2, rfl, ia, ib, h0⟩ := hf.slice
  obtain ⟨hB, kf⟩ := prof w (.slice ao k cap) (.slice ao2 k2 cap2)
  have hz : (w.alloc (.cells #[.slice ao k cap, .slice ao2 k2 cap2] 50)).heap.size = w.heap.size + 1 := by simp
  obtain ⟨hC, kr⟩ := pro1 (w.alloc (.cells #[.slice ao k cap, .slice ao2 k2 cap2] 50)) (.slice none 0 0)
  obtain ⟨hD, kd⟩ := pro1 (w.alloc (.cells #[.slice ao k cap, .slice ao2 k2 cap2] 50)) (.slice ao k cap)
  have c0 := (kf.below hC).cell0
  have c1 := kd.cell
  rw [hz] at kr c1
  go_enter Try.func50, Try.ntmps50
  go_wp2
  refine bodyPost_ret (v := .agg #[.slice ao k cap]) (by simp [results, Try.results50, go_sem, c1]) rfl ⟨_, rfl, ⟨_, rfl, ia.below (nextB hB hD)⟩, nextB hB hD⟩

set_option maxHeartbeats 400000 in
theorem FDen_any {w : World} {f : Value} {n d : Nat} (hf : IsF w f n d) (L : Nat) (hL : L ≤ 1073741824) (hd : d < P2 L) :
    Calls Try.prog 51 #[f] w (RetNat w d) := by
  obtain ⟨ao, k, cap, ao2, k2, cap2, rfl, ia, ib, h0⟩ := hf.slice
  obtain ⟨hB, kf⟩ := prof w (.slice ao k cap) (.slice ao2 k2 cap2)
  have hz : (w.alloc (.cells #[.slice ao k cap, .slice ao2 k2 cap2] 50)).heap.size = w.heap.size + 1 := by simp
  obtain ⟨hC, kr⟩ := pro1 (w.alloc (.cells #[.slice ao k cap, .slice ao2 k2 cap2] 50)) (.slice none 0 0)
  replace kf := kf.below hC
  replace hB := nextB hB hC
  rw [hz] at kr
  have c0 := kf.cell0
  have c1 := kf.cell1
  go_enter Try.func51, Try.ntmps51
  go_wp2_with fail
  refine (den_any (hf.below hB) L hL hd).mono ?_
  rintro e w2 ⟨v2, rfl, i2, b⟩
  obtain ⟨ao3, k3, cap3, rfl⟩ := i2.slice
  replace hB := nextB hB b
  replace kr := kr.below b
  clear c0 c1
  have c1 := kr.cell
  have f1 := kr.free
  go_wp2
  refine bodyPost_ret (v := .agg #[.slice ao3 k3 cap3]) (by simp [results, Try.results51, go_sem, c1]) rfl ⟨_, rfl, ⟨_, rfl, i2.setBx kr NoInt.one _⟩, hB.setCell (by simp) _⟩

set_option maxHeartbeats 1000000 in
theorem FFloor_any {w : World} {f : Value} {n d : Nat} (hf : IsF w f n d) (L : Nat) (hL : L ≤ 1073741824) (hn : n < P2 L) (hd : d < P2 L) :
    Calls Try.prog 52 #[f] w (RetNat w (n / d)) := by
  obtain ⟨ao, k, cap, ao2, k2, cap2, rfl, ia, ib, h0⟩ := hf.slice
  obtain ⟨hB, kf⟩ := prof w (.slice ao k cap) (.slice ao2 k2 cap2)
  have hz : (w.alloc (.cells #[.slice ao k cap, .slice ao2 k2 cap2] 50)).heap.size = w.heap.size + 1 := by simp
  obtain ⟨hC, kr⟩ := pro1 (w.alloc (.cells #[.slice ao k cap, .slice ao2 k2 cap2] 50)) (.slice none 0 0)
  replace kf := kf.below hC
  replace hB := nextB hB hC
  rw [hz] at kr
  clear hz hC
  have HN := Lib.hid hn
  have HD := Lib.hid hd
  have H0 := Lib.hid h0
  clear hn hd h0
  replace hf := hf.below hB
  replace ia := ia.below hB
  go_enter Try.func52, Try.ntmps52
  go_wp2_with fail
  obtain ⟨wo, hwo⟩ : ∃ wo : World, wo = (w.alloc (.cells #[.slice ao k cap, .slice ao2 k2 cap2] 50)).alloc (.cells #[.slice none 0 0] 25) := ⟨_, rfl⟩
  rw [← hwo] at hB kf kr hf ia ⊢
  clear hwo
  have c0 := kf.cell0
  have c1 := kf.cell1
  have hlt := kf.lt
  go_region_held3 (fun w' => w'.cell? ⟨w.heap.size, 0, none⟩ = some (.slice ao k cap) ∧ w'.cell? ⟨w.heap.size, 1, none⟩ = some (.slice ao2 k2 cap2) ∧ Below wo.heap.size wo w')
    (first
      | exact ⟨c0, c1, (Below.refl _ _).drew⟩
      | (go_split_ands; exact ⟨by assumption, by assumption, by assumption⟩)
      | (go_split_ands; have hk := nextB (by assumption) bb; exact ⟨(hk.cell (p := ⟨w.heap.size, 0, none⟩) hlt).trans c0, (hk.cell (p := ⟨w.heap.size, 1, none⟩) hlt).trans c1, hk⟩))
    (first
      | (go_at_call 109; go_split_ands; refine (den_any (hf.below (by assumption)) L hL HD.out).mono ?_; rintro e wq ⟨v1, rfl, i1, bb⟩)
      | (go_at_call 111; go_split_ands; refine (divMod_any (ia.below (by assumption)) i1 H0.out L (by omega) HN.out).mono ?_; rintro e wq ⟨v2, v3, rfl, i2, i3, bb⟩))
  go_split_ands
  have b : Below wo.heap.size wo wq := by assumption
  obtain ⟨w2, hw⟩ : ∃ w_ : World, w_ = wq := ⟨_, rfl⟩
  rw [← hw] at b i2 ⊢
  clear hw
  obtain ⟨ao3, k3, cap3, rfl⟩ := i2.slice
  replace hB := nextB hB b
  replace kr := kr.below b
  clear c0 c1
  have c1 := kr.cell
  have f1 := kr.free
  go_wp2
  refine bodyPost_ret (v := .agg #[.slice ao3 k3 cap3]) (by simp [results, Try.results52, go_sem, c1]) rfl ⟨_, rfl, ⟨_, rfl, i2.setBx kr NoInt.one _⟩, hB.setCell (by simp) _⟩

/-- A fraction of the specification's. -/
def IsG (w : World) (v : Value) (n d : Nat) : Prop := ∃ a b, v = .agg #[a, b] ∧ IsR w a n ∧ IsR w b d ∧ 0 < d
theorem IsG.below {w w' : World} {v : Value} {n d : Nat} (h : IsG w v n d) (hb : Below w.heap.size w w') : IsG w' v n d :=
  let ⟨a, b, h1, h2, h3, h4⟩ := h
  ⟨a, b, h1, h2.below hb, h3.below hb, h4⟩
theorem IsG.slice {w : World} {v : Value} {n d : Nat} (h : IsG w v n d) : ∃ ao k cap ao2 k2 cap2, v = .agg #[.slice ao k cap, .slice ao2 k2 cap2] ∧ IsR w (.slice ao k cap) n ∧ IsR w (.slice ao2 k2 cap2) d ∧ 0 < d := by
  obtain ⟨a, b, rfl, ha, hb, h⟩ := h
  obtain ⟨ao, k, cap, rfl, -⟩ := ha.slice
  obtain ⟨ao2, k2, cap2, rfl, -⟩ := hb.slice
  exact ⟨ao, k, cap, ao2, k2, cap2, rfl, ha, hb, h⟩
/-- A box of a fraction of the specification's. -/
structure Gx (w : World) (R : Nat) (s t : Value) : Prop where
  blk : Blk w R #[s, t] 55
  cell0 : w.cell? ⟨R, 0, none⟩ = some s
  cell1 : w.cell? ⟨R, 1, none⟩ = some t
  free0 : w.frozen? ⟨R, 0, none⟩ = false
  free1 : w.frozen? ⟨R, 1, none⟩ = false
theorem Blk.gx {w : World} {R : Nat} {s t : Value} (h : Blk w R #[s, t] 55) : Gx w R s t := ⟨h, (h.cell 0).trans rfl, (h.cell 1).trans rfl, h.frozen 0, h.frozen 1⟩
theorem Gx.below {w w' : World} {R : Nat} {s t : Value} (h : Gx w R s t) (hb : Below w.heap.size w w') : Gx w' R s t := (h.blk.below hb).gx
theorem Gx.lt {w : World} {R : Nat} {s t : Value} (h : Gx w R s t) : R < w.heap.size := h.blk.lt
theorem Gx.set0 {w : World} {R : Nat} {a b : Value} (h : Gx w R a b) (v : Value) : Gx (w.setCell ⟨R, 0, none⟩ v) R v b := (show Blk (w.setCell ⟨R, 0, none⟩ v) R #[v, b] 55 from h.blk.set 0 v).gx
theorem prog' (w : World) (s t : Value) : Below w.heap.size w (w.alloc (.cells #[s, t] 55)) ∧ Gx (w.alloc (.cells #[s, t] 55)) w.heap.size s t :=
  ⟨(Below.refl _ _).alloc (Nat.le_refl _) _, (Blk.new _ _ _).gx⟩

set_option maxHeartbeats 1000000 in
theorem floorR_any {w : World} {f : Value} {n d : Nat} (hf : IsG w f n d) (L : Nat) (hL : L ≤ 536870912) (hn : n < P2 L) (hd : d < P2 L) :
    Calls Try.prog 53 #[f] w (RetR w (n / d)) := by
  obtain ⟨ao, k, cap, ao2, k2, cap2, rfl, ia, ib, h0⟩ := hf.slice
  obtain ⟨hB, kf⟩ := prog' w (.slice ao k cap) (.slice ao2 k2 cap2)
  have c0 := kf.cell0
  have c1 := kf.cell1
  go_enter Try.func53, Try.ntmps53
  go_wp2_with fail
  refine (divModR_any (ia.below hB) (ib.below hB) h0 L hL hn hd).mono ?_
  rintro e w2 ⟨v2, v3, rfl, i2, i3, b⟩
  go_wp2
  go_ret
  exact ⟨_, rfl, i2, nextB hB b⟩

end Go.Proofs.Ytppbhjhbaknidaa

/-
  The contracts of the specification's Low and Text of fractions, and of the statements' same. Condition: numbers of at most 2^28 bits.
-/
set_option linter.unusedVariables false
set_option linter.unusedSimpArgs false
namespace Go.Proofs.Ytppbhjhbaknidaa
open Go.RowKit

theorem IsR.setG {w : World} {s a b : Value} {n R : Nat} (h : IsR w s n) (hb : Gx w R a b) (hn : NoInt #[a, b]) (i : Nat) (v : Value) : IsR (w.setCell ⟨R, i, none⟩ v) s n := by
  obtain ⟨xs, h1, h2, h3⟩ := h
  exact ⟨xs, h1.setBlk hb.blk hn i v, h2, h3⟩
theorem IsG.of {w : World} {a b : Value} {n d : Nat} (ha : IsR w a n) (hb : IsR w b d) (hd : 0 < d) : IsG w (.agg #[a, b]) n d := ⟨a, b, rfl, ha, hb, hd⟩
/-- A fraction of the specification's alone. -/
def RetG (w : World) (n d : Nat) (e : Ending) (w' : World) : Prop := ∃ v, e = .returned v ∧ IsG w' v n d ∧ Below w.heap.size w w'

set_option maxHeartbeats 1000000 in
theorem lowR_any {w : World} {va vb : Value} {m n : Nat} (ha : IsR w va m) (hb : IsR w vb n) (hn0 : 0 < n) (L : Nat) (hL : L ≤ 536870912) (hm : m < P2 L) (hn : n < P2 L) :
    Calls Try.prog 48 #[va, vb] w (RetG w (m / Nat.gcd m n) (n / Nat.gcd m n)) := by
  obtain ⟨ao, k, cap, rfl, hk, -⟩ := ha.slice
  obtain ⟨hB, kf⟩ := prog' w (.slice none 0 0) (.slice none 0 0)
  replace ha := ha.below hB
  replace hb := hb.below hB
  have hq := gcd_div_pos (m := m) hn0
  by_cases hm0 : m = 0
  · obtain rfl := hk.2 hm0
    subst hm0
    rw [Nat.gcd_zero_left, Nat.div_self hn0, Nat.zero_div]
    clear hk hm hn
    go_enter Try.func48, Try.ntmps48
    go_wp2_with fail
    obtain ⟨wo, hwo⟩ : ∃ wo : World, wo = w.alloc (.cells #[.slice none 0 0, .slice none 0 0] 55) := ⟨_, rfl⟩
    rw [← hwo] at hB kf ha ⊢
    clear hwo
    refine (of_any 1 (by omega) _).mono ?_
    rintro e w1 ⟨v1, rfl, i1, b⟩
    obtain ⟨ao3, k3, cap3, rfl, -⟩ := i1.slice
    replace hB := nextB hB b
    replace kf := kf.below b
    have c0 := kf.cell0
    have c1 := kf.cell1
    have f0 := kf.free0
    have f1 := kf.free1
    have kg := kf.set0 (.slice none 0 0)
    have d1 := kg.cell1
    have g1 := kg.free1
    have d0 := kg.cell0
    go_wp2
    refine bodyPost_ret (v := .agg #[.slice none 0 0, .slice ao3 k3 cap3]) (by simp [results, Try.results48, go_sem, c0, c1, d0, d1]) rfl ⟨_, rfl, IsG.of (IsR.zero _) ((i1.setG kf NoInt.two 0 _).setG kg NoInt.two 1 _) (by omega), (hB.setCell (Nat.le_refl _) _).setCell (Nat.le_refl _) _⟩
  · have hkb : ((k : Int) == 0) = false := by rw [beq_eq_false_iff_ne]; intro hc; exact hm0 (hk.1 (by omega))
    have hg0 : 0 < Nat.gcd m n := Nat.gcd_pos_of_pos_right m hn0
    have HM := Lib.hid hm
    have HN := Lib.hid hn
    have hgl : Nat.gcd m n < P2 L := Nat.lt_of_le_of_lt (Nat.le_of_dvd hn0 (Nat.gcd_dvd_right m n)) hn
    have HGL := Lib.hid hgl
    clear hk hm0 hm hn hgl
    go_enter Try.func48, Try.ntmps48
    go_wp2_with fail
    obtain ⟨wo, hwo⟩ : ∃ wo : World, wo = w.alloc (.cells #[.slice none 0 0, .slice none 0 0] 55) := ⟨_, rfl⟩
    rw [← hwo] at hB kf ha hb ⊢
    clear hwo
    refine (gcdR_any ha hb L hL HM.out HN.out).mono ?_
    rintro e w1 ⟨vg, rfl, ig, b⟩
    replace hB := nextB hB b
    replace kf := kf.below b
    replace ha := ha.below b
    replace hb := hb.below b
    clear b
    generalize Nat.gcd m n = g at *
    go_wp2_with fail
    refine (divModR_any ha ig hg0 L hL HM.out HGL.out).mono ?_
    rintro e w2 ⟨v1, v2, rfl, i1, i2, b⟩
    replace hB := nextB hB b
    replace kf := kf.below b
    replace hb := hb.below b
    replace ig := ig.below b
    clear b i2
    go_wp2_with fail
    refine (divModR_any hb ig hg0 L hL HN.out HGL.out).mono ?_
    rintro e w3 ⟨v3, v4, rfl, i3, i4, b⟩
    replace hB := nextB hB b
    replace kf := kf.below b
    replace i1 := i1.below b
    clear b i4
    obtain ⟨ao3, k3, cap3, rfl, -⟩ := i1.slice
    obtain ⟨ao4, k4, cap4, rfl, -⟩ := i3.slice
    have c0 := kf.cell0
    have c1 := kf.cell1
    have f0 := kf.free0
    have f1 := kf.free1
    have kg := kf.set0 (.slice ao3 k3 cap3)
    have d1 := kg.cell1
    have g1 := kg.free1
    have d0 := kg.cell0
    generalize m / g = p at *
    generalize n / g = q at *
    go_wp2
    refine bodyPost_ret (v := .agg #[.slice ao3 k3 cap3, .slice ao4 k4 cap4]) (by simp [results, Try.results48, go_sem, c0, c1, d0, d1]) rfl ⟨_, rfl, IsG.of ((i1.setG kf NoInt.two 0 _).setG kg NoInt.two 1 _) ((i3.setG kf NoInt.two 0 _).setG kg NoInt.two 1 _) hq, (hB.setCell (Nat.le_refl _) _).setCell (Nat.le_refl _) _⟩

theorem cat_ok {a b : ByteArray} (h : a.size + b.size ≤ 9223372036854775807) : Op.stringOp .add a b = pure (.string (a ++ b)) := by
  unfold Op.stringOp
  exact if_neg (show ¬ (((a.size + b.size : Nat) : Int) > 9223372036854775807) by omega)

set_option maxHeartbeats 1000000 in
theorem textG_any {w : World} {f : Value} {n d : Nat} (hf : IsG w f n d) (L : Nat) (hL : L ≤ 536870912) (hn : n < P2 L) (hd : d < P2 L) :
    Calls Try.prog 110 #[f] w (RetS w (ftxt n d)) := by
  obtain ⟨ao, k, cap, ao2, k2, cap2, rfl, ia, ib, h0⟩ := hf.slice
  obtain ⟨hB, kf⟩ := prog' w (.slice ao k cap) (.slice ao2 k2 cap2)
  have HN := Lib.hid hn
  have HD := Lib.hid hd
  have z1 := txt_size hn
  have z2 := txt_size hd
  have H1 := Lib.hid (fun w_ => of_any 1 (by omega) w_)
  clear hn hd
  replace ia := ia.below hB
  replace ib := ib.below hB
  go_enter Try.func110, Try.ntmps110
  go_wp2_with fail
  obtain ⟨wo, hwo⟩ : ∃ wo : World, wo = w.alloc (.cells #[.slice ao k cap, .slice ao2 k2 cap2] 55) := ⟨_, rfl⟩
  rw [← hwo] at hB kf ia ib ⊢
  clear hwo
  have c0 := kf.cell0
  have c1 := kf.cell1
  have hlt := kf.lt
  go_region_held3 (fun w' => w'.cell? ⟨w.heap.size, 0, none⟩ = some (.slice ao k cap) ∧ w'.cell? ⟨w.heap.size, 1, none⟩ = some (.slice ao2 k2 cap2) ∧ Below wo.heap.size wo w')
    (first
      | exact ⟨c0, c1, (Below.refl _ _).drew⟩
      | (go_split_ands; exact ⟨by assumption, by assumption, by assumption⟩)
      | (go_split_ands; have hk := nextB (by assumption) bb; exact ⟨(hk.cell (p := ⟨w.heap.size, 0, none⟩) hlt).trans c0, (hk.cell (p := ⟨w.heap.size, 1, none⟩) hlt).trans c1, hk⟩))
    (first
      | (go_at_call 67; go_split_ands; refine (H1.out _).mono ?_; rintro e wq ⟨v1, rfl, i1, bb⟩)
      | (go_at_call 55; go_split_ands; refine (cmpR_any (ib.below (by assumption)) i1).mono ?_; rintro e wq ⟨rfl, bb⟩))
  go_split_ands
  have b : Below wo.heap.size wo wq := by assumption
  obtain ⟨w2, hw⟩ : ∃ w_ : World, w_ = wq := ⟨_, rfl⟩
  rw [← hw] at b ⊢
  clear hw
  replace hB := nextB hB b
  replace kf := kf.below b
  replace ia := ia.below b
  replace ib := ib.below b
  clear c0 c1 b hlt
  by_cases hd1 : d = 1
  · have HT := Lib.hid (show ftxt n d = txt n by unfold ftxt; rw [if_pos hd1])
    have hc : ((cmpI d 1 : Int) == 0) = true := by rw [hd1]; rfl
    clear hd1
    have c0 := kf.cell0
    have c1 := kf.cell1
    go_wp2_with fail
    refine (textR_any ia L (by omega) HN.out).mono ?_
    rintro e w3 ⟨rfl, b⟩
    go_wp2
    go_ret
    exact ⟨by rw [HT.out]; rfl, nextB hB b⟩
  · have HT := Lib.hid (show ftxt n d = txt n ++ (⟨#[47]⟩ ++ txt d) by unfold ftxt; rw [if_neg hd1])
    have hc : ((cmpI d 1 : Int) == 0) = false := cmpI_ne hd1
    clear hd1
    have c0 := kf.cell0
    have c1 := kf.cell1
    have hlt := kf.lt
    have ha1 := cat_ok (a := txt n) (b := ⟨#[47]⟩) (by have : (⟨#[47]⟩ : ByteArray).size = 1 := rfl; omega)
    have ha2 := cat_ok (a := txt n ++ ⟨#[47]⟩) (b := txt d) (by rw [ByteArray.size_append]; have : (⟨#[47]⟩ : ByteArray).size = 1 := rfl; omega)
    obtain ⟨wz, hwz⟩ : ∃ wz : World, wz = w2 := ⟨_, rfl⟩
    rw [← hwz] at hB kf ia ib c0 c1 hlt ⊢
    clear hwz
    go_wp2
    go_region_held3 (fun w' => w'.cell? ⟨w.heap.size, 0, none⟩ = some (.slice ao k cap) ∧ w'.cell? ⟨w.heap.size, 1, none⟩ = some (.slice ao2 k2 cap2) ∧ Below wz.heap.size wz w')
      (first
        | exact ⟨c0, c1, (Below.refl _ _).drew⟩
        | (go_split_ands; exact ⟨by assumption, by assumption, by assumption⟩)
        | (go_split_ands; have hk := nextB (by assumption) bb; exact ⟨(hk.cell (p := ⟨w.heap.size, 0, none⟩) hlt).trans c0, (hk.cell (p := ⟨w.heap.size, 1, none⟩) hlt).trans c1, hk⟩))
      (first
        | (go_at_call 77; go_split_ands; (first | with_reducible refine (textR_any (ia.below (by assumption)) L (by omega) HN.out).mono ?_ | with_reducible refine (textR_any (ib.below (by assumption)) L (by omega) HD.out).mono ?_); rintro e wq ⟨rfl, bb⟩))
    go_split_ands
    have hC := nextB hB (show Below wz.heap.size wz wq by assumption)
    go_wp2
    go_ret
    exact ⟨by rw [HT.out, ← ByteArray.append_assoc]; rfl, hC⟩

theorem ftxt_01 : ftxt 0 1 = ⟨#[48]⟩ := by unfold ftxt; rw [if_pos rfl]; rfl

set_option maxHeartbeats 1000000 in
theorem same_ok {w : World} {f g : Value} {n d : Nat} (hf : IsF w f n d) (hg : IsG w g n d) (L : Nat) (hL : L ≤ 536870912) (hn : n < P2 L) (hd : d < P2 L) :
    Calls Try.prog 49 #[f, .int .i64 0, g, .int .i64 0] w (RetB w true) := by
  obtain ⟨ao, k, cap, ao2, k2, cap2, rfl, ia, ib, h0⟩ := hf.slice
  obtain ⟨ao3, k3, cap3, ao4, k4, cap4, rfl, ic, id, h1⟩ := hg.slice
  obtain ⟨hB, kf⟩ := prof w (.slice ao k cap) (.slice ao2 k2 cap2)
  have hz : (w.alloc (.cells #[.slice ao k cap, .slice ao2 k2 cap2] 50)).heap.size = w.heap.size + 1 := by simp
  obtain ⟨hC, kg⟩ := prog' (w.alloc (.cells #[.slice ao k cap, .slice ao2 k2 cap2] 50)) (.slice ao3 k3 cap3) (.slice ao4 k4 cap4)
  replace kf := kf.below hC
  replace hB := nextB hB hC
  rw [hz] at kg
  clear hz hC ia ib ic id h0 h1
  have HN := Lib.hid hn
  have HD := Lib.hid hd
  clear hn hd
  replace hf := hf.below hB
  replace hg := hg.below hB
  have c0 := kf.cell0
  have c1 := kf.cell1
  have c2 := kg.cell0
  have c3 := kg.cell1
  go_enter Try.func49, Try.ntmps49
  go_wp2_with fail
  clear c0 c1 c2 c3
  obtain ⟨wo, hwo⟩ : ∃ wo : World, wo = (w.alloc (.cells #[.slice ao k cap, .slice ao2 k2 cap2] 50)).alloc (.cells #[.slice ao3 k3 cap3, .slice ao4 k4 cap4] 55) := ⟨_, rfl⟩
  rw [← hwo] at hB kf kg hf hg ⊢
  clear hwo
  have c0 := kf.cell0
  have c1 := kf.cell1
  have c2 := kg.cell0
  have c3 := kg.cell1
  have hlt := kf.lt
  have hlt2 := kg.lt
  go_region_held3 (fun w' => w'.cell? ⟨w.heap.size, 0, none⟩ = some (.slice ao k cap) ∧ w'.cell? ⟨w.heap.size, 1, none⟩ = some (.slice ao2 k2 cap2) ∧ w'.cell? ⟨w.heap.size + 1, 0, none⟩ = some (.slice ao3 k3 cap3) ∧ w'.cell? ⟨w.heap.size + 1, 1, none⟩ = some (.slice ao4 k4 cap4) ∧ Below wo.heap.size wo w')
    (first
      | exact ⟨c0, c1, c2, c3, (Below.refl _ _).drew⟩
      | (go_split_ands; exact ⟨by assumption, by assumption, by assumption, by assumption, by assumption⟩)
      | (go_split_ands; have hk := nextB (by assumption) bb; exact ⟨(hk.cell (p := ⟨w.heap.size, 0, none⟩) hlt).trans c0, (hk.cell (p := ⟨w.heap.size, 1, none⟩) hlt).trans c1, (hk.cell (p := ⟨w.heap.size + 1, 0, none⟩) hlt2).trans c2, (hk.cell (p := ⟨w.heap.size + 1, 1, none⟩) hlt2).trans c3, hk⟩))
    (first
      | (go_at_call 47; go_split_ands; refine (FString_any (hf.below (by assumption)) L (by omega) HN.out HD.out).mono ?_; rintro e wq ⟨rfl, bb⟩)
      | (go_at_call 110; go_split_ands; refine (textG_any (hg.below (by assumption)) L hL HN.out HD.out).mono ?_; rintro e wq ⟨rfl, bb⟩))
  go_split_ands
  have hC := nextB hB (show Below wo.heap.size wo wq by assumption)
  go_wp2
  go_ret
  exact ⟨rfl, hC⟩

set_option maxHeartbeats 1000000 in
theorem same_err {w : World} {f : Value} {er : Nat} (hf : IsF w f 0 1) (h1 : er ≠ 0) (h2 : er < 1000) (ao3 ao4 : Option Addr) (k3 cap3 k4 cap4 : Nat) :
    Calls Try.prog 49 #[f, .int .i64 er, .agg #[.slice ao3 k3 cap3, .slice ao4 k4 cap4], .int .i64 er] w (RetB w true) := by
  obtain ⟨ao, k, cap, ao2, k2, cap2, rfl, ia, ib, h0⟩ := hf.slice
  obtain ⟨hB, kf⟩ := prof w (.slice ao k cap) (.slice ao2 k2 cap2)
  have hz : (w.alloc (.cells #[.slice ao k cap, .slice ao2 k2 cap2] 50)).heap.size = w.heap.size + 1 := by simp
  obtain ⟨hC, kg⟩ := prog' (w.alloc (.cells #[.slice ao k cap, .slice ao2 k2 cap2] 50)) (.slice ao3 k3 cap3) (.slice ao4 k4 cap4)
  replace kf := kf.below hC
  replace hB := nextB hB hC
  rw [hz] at kg
  clear hz hC ia ib h0
  replace hf := hf.below hB
  have hne : ((er : Int) != 0) = true := by rw [bne_iff_ne]; omega
  have HT := Lib.hid ftxt_01
  clear h1
  have c0 := kf.cell0
  have c1 := kf.cell1
  go_enter Try.func49, Try.ntmps49
  go_wp2_with fail
  refine (FString_any hf 16384 (by omega) (P2_pos _) (P2_16384 (by omega))).mono ?_
  rintro e w1 ⟨rfl, b⟩
  rw [HT.out]
  go_wp2
  go_ret
  exact ⟨rfl, nextB hB b⟩

end Go.Proofs.Ytppbhjhbaknidaa

/-
  The walk of the law NatFracs. No condition.
-/
set_option linter.unusedVariables false
set_option linter.unusedSimpArgs false
namespace Go.Proofs.Ytppbhjhbaknidaa
open Go.RowKit

set_option maxHeartbeats 16000000 in
set_option maxRecDepth 100000 in
theorem NatFracs_walk (va : Value) (vb : Value) (w : World) (ia : In16 w va) (ib : In16 w vb) :
    Calls Try.prog 7 #[va, vb] w (RetB w true) := by
  have hB := Below.refl w.heap.size w
  go_enter Try.func7, Try.ntmps7
  go_wp2_with fail
  refine (raw_any ia 24 (by omega)).mono ?_
  rintro e w1 ⟨c, hc, rc, rfl, icr, b⟩
  replace hB := nextB hB b
  replace ia := ia.below b
  replace ib := ib.below b
  clear b
  have Hc := Lib.hid hc
  clear hc
  go_wp2_with fail
  refine (raw_any ib 24 (by omega)).mono ?_
  rintro e w2 ⟨d, hd, rd, rfl, idr, b⟩
  replace hB := nextB hB b
  replace ia := ia.below b
  replace ib := ib.below b
  replace icr := icr.below b
  clear b
  have Hd := Lib.hid hd
  clear hd
  have Hc := Lib.hid (lt_P2_mono Hc.out (show 16 * 24 ≤ 16384 by omega))
  have Hd := Lib.hid (lt_P2_mono Hd.out (show 16 * 24 ≤ 16384 by omega))
  go_wp2_with fail
  refine (two_any icr idr Hc.out Hd.out).mono ?_
  rintro e w3 ⟨u1, u2, rfl, j1, j2, b⟩
  obtain ⟨aox, qx, capx, rfl, xx⟩ := j1.slice
  clear j1
  obtain ⟨aoy, qy, capy, rfl, xy⟩ := j2.slice
  clear j2
  replace hB := nextB hB b
  replace ia := ia.below b
  replace ib := ib.below b
  replace icr := icr.below b
  replace idr := idr.below b
  clear b
  obtain ⟨b, kx, ky⟩ := pro2 w3 (.slice aox qx capx) (.slice aoy qy capy)
  obtain ⟨Rx, hRx⟩ : ∃ R, R = w3.heap.size := ⟨_, rfl⟩
  have cc0 := kx.cell
  have cc1 := ky.cell
  go_wp2_with fail
  obtain ⟨w4, hw⟩ : ∃ w_ : World, w_ = ((w3.alloc (.cells #[.slice aox qx capx] 25)).alloc (.cells #[.slice aoy qy capy] 25)) := ⟨_, rfl⟩
  rw [← hw] at b kx ky ⊢
  rw [← hRx] at kx ky ⊢
  clear hw hRx cc0 cc1
  replace hB := nextB hB b
  replace ia := ia.below b
  replace ib := ib.below b
  replace icr := icr.below b
  replace idr := idr.below b
  replace xx := xx.below b
  replace xy := xy.below b
  clear b
  obtain ⟨aod, qd, capd, rfl, hqd, -⟩ := idr.slice
  by_cases hd0 : d = 0
  · obtain rfl := hqd.2 hd0
    subst hd0
    clear hqd
    refine (NewFrac_zero ⟨_, rfl, xx⟩ ⟨_, rfl, xy⟩).mono ?_
    rintro e w5 ⟨v_, rfl, j_, b⟩
    rw [if_neg (by omega), if_neg (by omega)] at j_
    replace hB := nextB hB b
    replace ia := ia.below b
    replace ib := ib.below b
    replace icr := icr.below b
    replace idr := idr.below b
    replace xx := xx.below b
    replace xy := xy.below b
    replace kx := kx.below b
    replace ky := ky.below b
    clear b
    have ff := j_
    obtain ⟨aof, qf, capf, aof2, qf2, capf2, rfl, -, -, -⟩ := ff.slice
    clear j_
    obtain ⟨b, kf⟩ := prof w5 (.slice aof qf capf) (.slice aof2 qf2 capf2)
    obtain ⟨Rf, hRf⟩ : ∃ R, R = w5.heap.size := ⟨_, rfl⟩
    have cc0 := (kx.below b).cell
    have cc1 := (ky.below b).cell
    have cc2 := kf.cell0
    have cc3 := kf.cell1
    go_wp2_with fail
    obtain ⟨w6, hw⟩ : ∃ w_ : World, w_ = (w5.alloc (.cells #[.slice aof qf capf, .slice aof2 qf2 capf2] 50)) := ⟨_, rfl⟩
    rw [← hw] at b kf ⊢
    rw [← hRf] at kf ⊢
    clear hw hRf cc0 cc1 cc2 cc3
    replace hB := nextB hB b
    replace ia := ia.below b
    replace ib := ib.below b
    replace icr := icr.below b
    replace idr := idr.below b
    replace xx := xx.below b
    replace xy := xy.below b
    replace kx := kx.below b
    replace ky := ky.below b
    replace ff := ff.below b
    clear b
    refine (FString_any ff 16384 (by omega) (P2_pos _) (P2_16384 (by omega))).mono ?_
    rintro e w7 ⟨rfl, b⟩
    rw [ftxt_01]
    replace hB := nextB hB b
    replace ia := ia.below b
    replace ib := ib.below b
    replace icr := icr.below b
    replace idr := idr.below b
    replace xx := xx.below b
    replace xy := xy.below b
    replace kx := kx.below b
    replace ky := ky.below b
    replace ff := ff.below b
    replace kf := kf.below b
    clear b
    have cc0 := kx.cell
    have cc1 := ky.cell
    have cc2 := kf.cell0
    have cc3 := kf.cell1
    go_wp2_with fail
    clear cc0 cc1 cc2 cc3
    refine (awake_any _).mono ?_
    rintro e w8 ⟨rfl, b⟩
    replace hB := nextB hB b
    replace ia := ia.below b
    replace ib := ib.below b
    replace icr := icr.below b
    replace idr := idr.below b
    replace xx := xx.below b
    replace xy := xy.below b
    replace kx := kx.below b
    replace ky := ky.below b
    replace ff := ff.below b
    replace kf := kf.below b
    clear b
    go_wp2
    go_ret
    exact ⟨rfl, hB⟩
  · have hqd0 : ((qd : Int) == 0) = false := by rw [beq_eq_false_iff_ne]; intro hh; exact hd0 (hqd.1 (by omega))
    have hd1 := Nat.pos_of_ne_zero hd0
    have HD0 := Lib.hid hd1
    clear hqd hd0 hd1
    have HP := Lib.hid (Nat.lt_of_le_of_lt (Nat.div_le_self c (Nat.gcd c d)) Hc.out)
    have HQ := Lib.hid (Nat.lt_of_le_of_lt (Nat.div_le_self d (Nat.gcd c d)) Hd.out)
    refine (NewFrac_any ⟨_, rfl, xx⟩ ⟨_, rfl, xy⟩ HD0.out 16384 (by omega) Hc.out Hd.out).mono ?_
    rintro e w5 ⟨v_, rfl, j_, b⟩
    rw [if_pos rfl, if_pos rfl] at j_
    replace hB := nextB hB b
    replace ia := ia.below b
    replace ib := ib.below b
    replace icr := icr.below b
    replace idr := idr.below b
    replace xx := xx.below b
    replace xy := xy.below b
    replace kx := kx.below b
    replace ky := ky.below b
    clear b
    have ff := j_
    obtain ⟨aof, qf, capf, aof2, qf2, capf2, rfl, -, -, -⟩ := ff.slice
    clear j_
    obtain ⟨b, kf⟩ := prof w5 (.slice aof qf capf) (.slice aof2 qf2 capf2)
    obtain ⟨Rf, hRf⟩ : ∃ R, R = w5.heap.size := ⟨_, rfl⟩
    have cc0 := (kx.below b).cell
    have cc1 := (ky.below b).cell
    have cc2 := kf.cell0
    have cc3 := kf.cell1
    go_wp2_with fail
    obtain ⟨w6, hw⟩ : ∃ w_ : World, w_ = (w5.alloc (.cells #[.slice aof qf capf, .slice aof2 qf2 capf2] 50)) := ⟨_, rfl⟩
    rw [← hw] at b kf ⊢
    rw [← hRf] at kf ⊢
    clear hw hRf cc0 cc1 cc2 cc3
    replace hB := nextB hB b
    replace ia := ia.below b
    replace ib := ib.below b
    replace icr := icr.below b
    replace idr := idr.below b
    replace xx := xx.below b
    replace xy := xy.below b
    replace kx := kx.below b
    replace ky := ky.below b
    replace ff := ff.below b
    clear b
    clear xx xy kx ky
    refine (lowR_any icr idr HD0.out 16384 (by omega) Hc.out Hd.out).mono ?_
    rintro e w7 ⟨v_, rfl, j_, b⟩
    replace hB := nextB hB b
    replace ia := ia.below b
    replace ib := ib.below b
    replace icr := icr.below b
    replace idr := idr.below b
    replace ff := ff.below b
    replace kf := kf.below b
    clear b
    generalize c / Nat.gcd c d = p at *
    generalize d / Nat.gcd c d = q at *
    have fg := j_
    obtain ⟨aog, qg, capg, aog2, qg2, capg2, rfl, gn, gd, -⟩ := fg.slice
    clear j_
    obtain ⟨b, kg⟩ := prog' w7 (.slice aog qg capg) (.slice aog2 qg2 capg2)
    obtain ⟨Rg, hRg⟩ : ∃ R, R = w7.heap.size := ⟨_, rfl⟩
    have cc0 := (kf.below b).cell0
    have cc1 := (kf.below b).cell1
    have cc2 := kg.cell0
    have cc3 := kg.cell1
    go_wp2_with fail
    obtain ⟨w8, hw⟩ : ∃ w_ : World, w_ = (w7.alloc (.cells #[.slice aog qg capg, .slice aog2 qg2 capg2] 55)) := ⟨_, rfl⟩
    rw [← hw] at b kg ⊢
    rw [← hRg] at kg ⊢
    clear hw hRg cc0 cc1 cc2 cc3
    replace hB := nextB hB b
    replace ia := ia.below b
    replace ib := ib.below b
    replace icr := icr.below b
    replace idr := idr.below b
    replace ff := ff.below b
    replace kf := kf.below b
    replace fg := fg.below b
    replace gn := gn.below b
    replace gd := gd.below b
    clear b
    clear icr idr
    have HFl := Lib.hid (Nat.lt_of_le_of_lt (Nat.div_le_self p q) HP.out)
    obtain ⟨wo, hwo⟩ : ∃ wo : World, wo = w8 := ⟨_, rfl⟩
    rw [← hwo] at hB ia ib ff kf fg gn gd kg ⊢
    clear hwo
    have cc0 := kf.cell0
    have cc1 := kf.cell1
    have cc2 := kg.cell0
    have cc3 := kg.cell1
    have ltf := kf.lt
    have ltg := kg.lt
    go_wp2
    go_region_held3 (fun w' => w'.cell? ⟨Rf, 0, none⟩ = some (.slice aof qf capf) ∧ w'.cell? ⟨Rf, 1, none⟩ = some (.slice aof2 qf2 capf2) ∧ w'.cell? ⟨Rg, 0, none⟩ = some (.slice aog qg capg) ∧ w'.cell? ⟨Rg, 1, none⟩ = some (.slice aog2 qg2 capg2) ∧ Below wo.heap.size wo w')
      (first
        | exact ⟨cc0, cc1, cc2, cc3, (Below.refl _ _).drew⟩
        | (go_split_ands; exact ⟨by assumption, by assumption, by assumption, by assumption, by assumption⟩)
        | (go_split_ands; have hk := nextB (by assumption) bb; exact ⟨(hk.cell (p := ⟨Rf, 0, none⟩) ltf).trans cc0, (hk.cell (p := ⟨Rf, 1, none⟩) ltf).trans cc1, (hk.cell (p := ⟨Rg, 0, none⟩) ltg).trans cc2, (hk.cell (p := ⟨Rg, 1, none⟩) ltg).trans cc3, hk⟩))
      (first
        | (go_at_call 49; go_split_ands; refine (same_ok (ff.below (by assumption)) (fg.below (by assumption)) 16384 (by omega) HP.out HQ.out).mono ?_; rintro e wq ⟨rfl, bb⟩)
        | (go_at_call 50; go_split_ands; refine (FNum_any (ff.below (by assumption))).mono ?_; rintro e wq ⟨v1, rfl, i1, bb⟩)
        | (go_at_call 51; go_split_ands; refine (FDen_any (ff.below (by assumption)) 16384 (by omega) HQ.out).mono ?_; rintro e wq ⟨v2, rfl, i2, bb⟩)
        | (go_at_call 52; go_split_ands; refine (FFloor_any (ff.below (by assumption)) 16384 (by omega) HP.out HQ.out).mono ?_; rintro e wq ⟨v3, rfl, i3, bb⟩)
        | (go_at_call 53; go_split_ands; refine (floorR_any (fg.below (by assumption)) 16384 (by omega) HP.out HQ.out).mono ?_; rintro e wq ⟨v4, rfl, i4, bb⟩; replace i3 := i3.below bb)
        | (go_at_call 41; go_split_ands; (first | with_reducible refine (is_any i3 i4 16384 (by omega) HFl.out).mono ?_ | with_reducible refine (is_any i2 (gd.below (by assumption)) 16384 (by omega) HQ.out).mono ?_ | with_reducible refine (is_any i1 (gn.below (by assumption)) 16384 (by omega) HP.out).mono ?_); rintro e wq ⟨rfl, bb⟩)
        | (go_at_call 31; go_split_ands; refine (awake_any _).mono ?_; rintro e wq ⟨rfl, bb⟩))
    go_split_ands
    have hC := nextB hB (by assumption)
    go_wp2
    go_ret
    exact ⟨rfl, hC⟩

end Go.Proofs.Ytppbhjhbaknidaa
