/-
  The contracts of the statements' helpers: is, told, made, two, fit. Condition: numbers of at most 2^29 bits.
-/
import Derived.Test.YtppbhjhbaknidaaFracA
import Derived.Deep.RegionHeld3
import Derived.RegionTactic
set_option linter.unusedVariables false
set_option linter.unusedSimpArgs false
namespace Go.Proofs.Ytppbhjhbaknidaa
open Go.RowKit

set_option maxHeartbeats 1000000 in
theorem is_any {w : World} {x a : Value} {n : Nat} (hx : IsNat w x n) (ha : IsR w a n) (L : Nat) (hL : L ≤ 1073741824) (hn : n < P2 L) :
    Calls Try.prog 41 #[x, a] w (RetB w true) := by
  obtain ⟨ao, k, cap, rfl, ix⟩ := hx.slice
  obtain ⟨ao2, k2, cap2, rfl, -, -⟩ := ha.slice
  clear hx
  obtain ⟨hB, kx⟩ := pro1 w (.slice ao k cap)
  go_enter Try.func41, Try.ntmps41
  go_wp2_with fail
  refine (String_any ⟨_, rfl, ix.below hB⟩ L hL hn).mono ?_
  rintro e w1 ⟨rfl, b1⟩
  replace hB := nextB hB b1
  go_wp2_with fail
  refine (textR_any (ha.below hB) L hL hn).mono ?_
  rintro e w2 ⟨rfl, b2⟩
  replace hB := nextB hB b2
  go_wp2
  go_ret
  exact ⟨by simp, hB⟩

set_option maxHeartbeats 1000000 in
theorem told_err {w : World} {x a : Value} {er : Nat} (hx : IsNat w x 0) (he : er ≠ 0) (he2 : er < 1000) (ha : ∃ ao k cap, a = .slice ao k cap) :
    Calls Try.prog 34 #[x, .int .i64 er, a, .int .i64 er] w (RetB w true) := by
  obtain ⟨ao, k, cap, rfl, ix⟩ := hx.slice
  obtain ⟨ao2, k2, cap2, rfl⟩ := ha
  clear hx
  obtain ⟨hB, kx⟩ := pro1 w (.slice ao k cap)
  have hd : ((er : Int) != 0) = true := by rw [bne_iff_ne]; omega
  have c1 := kx.cell
  go_enter Try.func34, Try.ntmps34
  go_wp2_with fail
  refine (String_any ⟨_, rfl, ix.below hB⟩ 1 (by omega) (by unfold P2; omega)).mono ?_
  rintro e w1 ⟨rfl, b1⟩
  replace hB := nextB hB b1
  rw [txt_zero]
  go_wp2
  go_ret
  exact ⟨by simp, hB⟩

set_option maxHeartbeats 1000000 in
theorem told_ok {w : World} {x a : Value} {n : Nat} (hx : IsNat w x n) (ha : IsR w a n) (L : Nat) (hL : L ≤ 1073741824) (hn : n < P2 L) :
    Calls Try.prog 34 #[x, .int .i64 0, a, .int .i64 0] w (RetB w true) := by
  obtain ⟨ao, k, cap, rfl, ix⟩ := hx.slice
  obtain ⟨ao2, k2, cap2, rfl, -, -⟩ := ha.slice
  clear hx
  obtain ⟨hB, kx⟩ := pro1 w (.slice ao k cap)
  go_enter Try.func34, Try.ntmps34
  go_wp2_with fail
  refine (is_any ⟨_, rfl, ix.below hB⟩ (ha.below hB) L hL hn).mono ?_
  rintro e w1 ⟨rfl, b1⟩
  replace hB := nextB hB b1
  go_wp2
  go_ret
  exact ⟨rfl, hB⟩

theorem told_any {w : World} {x a : Value} {n m er : Nat} (hx : IsNat w x (if er = 0 then n else 0)) (ha : IsR w a m) (he : er = 0 → m = n) (he2 : er < 1000) (L : Nat) (hL : L ≤ 1073741824) (hn : n < P2 L) :
    Calls Try.prog 34 #[x, .int .i64 er, a, .int .i64 er] w (RetB w true) := by
  by_cases h : er = 0
  · subst h
    have := he rfl
    subst this
    exact told_ok hx ha L hL hn
  · rw [if_neg h] at hx
    obtain ⟨ao2, k2, cap2, rfl, -, -⟩ := ha.slice
    exact told_err hx h he2 ⟨_, _, _, rfl⟩

set_option maxHeartbeats 1000000 in
theorem fit_any {w : World} {a : Value} {n : Nat} (ha : IsR w a n) :
    Calls Try.prog 39 #[a] w fun e w' => e = .returned (.int .i64 (fitE n : Nat)) ∧ w' = w := by
  have hbl : blen n ≤ 16384 ↔ n < P2 16384 := blen_le
  by_cases h : n < P2 16384
  · have hf : fitE n = 0 := if_pos h
    rw [hf]
    have hb := hbl.2 h
    clear hf hbl h
    go_enter Try.func39, Try.ntmps39
    go_wp2_with fail
    refine (bitLenR_any ha).mono ?_
    rintro e w1 ⟨rfl, rfl⟩
    go_wp2
    go_ret
    exact ⟨rfl, rfl⟩
  · have hf : fitE n = 3 := if_neg h
    rw [hf]
    have hb : ¬ blen n ≤ 16384 := fun hc => h (hbl.1 hc)
    clear hf hbl h
    go_enter Try.func39, Try.ntmps39
    go_wp2_with fail
    refine (bitLenR_any ha).mono ?_
    rintro e w1 ⟨rfl, rfl⟩
    go_wp2
    go_ret
    exact ⟨rfl, rfl⟩

/-- A number and a bool. -/
def RetNB (w : World) (n : Nat) (b : Bool) (e : Ending) (w' : World) : Prop := ∃ v, e = .returned (.tuple #[v, .bool b]) ∧ IsNat w' v n ∧ Below w.heap.size w w'

theorem txt_sz {n : Nat} (h : n < P2 16384) : (txt n).size ≤ 1099511627776 := by have := txt_size h; omega

set_option maxHeartbeats 1000000 in
theorem made_any {w : World} {a : Value} {n : Nat} (ha : IsR w a n) (hn : n < P2 16384) :
    Calls Try.prog 43 #[a] w (RetNB w n true) := by
  obtain ⟨ao2, k2, cap2, rfl, -, -⟩ := ha.slice
  obtain ⟨hB, kr⟩ := pro1 w (.slice none 0 0)
  go_enter Try.func43, Try.ntmps43
  go_wp2_with fail
  refine (textR_any (ha.below hB) 16384 (by omega) hn).mono ?_
  rintro e w1 ⟨rfl, b1⟩
  replace hB := nextB hB b1
  replace kr := kr.below b1
  go_wp2_with fail
  refine (parse_any (txt n) _ (txt_sz hn)).mono ?_
  rintro e w2 ⟨v, rfl, iv, b2⟩
  rw [parseE_txt hn, numOf_txt, if_pos rfl] at iv
  rw [parseE_txt hn]
  obtain ⟨ao, k, cap, rfl, i3⟩ := iv.slice
  replace hB := nextB hB b2
  replace kr := kr.below b2
  have hsz := hB.size
  have k2 := kr.blk.alloc (.cells #[.slice ao k cap] 25)
  have k3 := k2.bx
  have f1 := k3.free
  have c1 := k3.cell
  have i4 := i3.below ((Below.refl _ w2).alloc (Nat.le_refl _) (.cells #[.slice ao k cap] 25))
  have hC := nextB hB ((Below.refl _ w2).alloc (Nat.le_refl _) (.cells #[.slice ao k cap] 25))
  go_wp2
  refine bodyPost_ret (v := .tuple #[.agg #[.slice ao k cap], .bool true]) (by simp [results, Try.results43, go_sem, c1]) rfl ⟨_, rfl, ⟨_, rfl, i4.setBx k3 NoInt.one _⟩, hC.setCell (Nat.le_refl _) _⟩

/-- Two numbers and a bool. -/
def RetNNB (w : World) (m n : Nat) (b : Bool) (e : Ending) (w' : World) : Prop := ∃ u v, e = .returned (.tuple #[u, v, .bool b]) ∧ IsNat w' u m ∧ IsNat w' v n ∧ Below w.heap.size w w'

theorem Bx.set {w : World} {R : Nat} {s : Value} (h : Bx w R s) (v : Value) : Bx (w.setCell ⟨R, 0, none⟩ v) R v := (show Blk (w.setCell ⟨R, 0, none⟩ v) R #[v] 25 from h.blk.set 0 v).bx
theorem below_alloc (w : World) (o : Obj) : Below w.heap.size w (w.alloc o) := (Below.refl _ _).alloc (Nat.le_refl _) _

set_option maxHeartbeats 1000000 in
theorem two_any {w : World} {a b : Value} {m n : Nat} (ha : IsR w a m) (hb : IsR w b n) (hm : m < P2 16384) (hn : n < P2 16384) :
    Calls Try.prog 36 #[a, b] w (RetNNB w m n true) := by
  obtain ⟨ao2, k2, cap2, rfl, -, -⟩ := ha.slice
  obtain ⟨ao3, k3, cap3, rfl, -, -⟩ := hb.slice
  obtain ⟨hB, kr, ks⟩ := pro2 w (.slice none 0 0) (.slice none 0 0)
  go_enter Try.func36, Try.ntmps36
  go_wp2_with fail
  refine (made_any (ha.below hB) hm).mono ?_
  rintro e w1 ⟨v1, rfl, iv, b1⟩
  replace hB := nextB hB b1
  replace kr := kr.below b1
  replace ks := ks.below b1
  obtain ⟨ao, k, cap, rfl, i1⟩ := iv.slice
  clear iv b1
  have b2 := below_alloc w1 (.cells #[.slice ao k cap] 25)
  have kx := (Blk.new w1 #[.slice ao k cap] 25).bx
  obtain ⟨R1, hR1⟩ : ∃ R, R = w1.heap.size := ⟨_, rfl⟩
  have hBR : w.heap.size + 1 < R1 := by rw [hR1]; exact ks.lt
  go_wp2_with fail
  obtain ⟨w2, hw2⟩ : ∃ w2 : World, w2 = w1.alloc (.cells #[.slice ao k cap] 25) := ⟨_, rfl⟩
  rw [← hw2] at b2 kx ⊢
  rw [← hR1] at kx ⊢
  clear hw2 hR1
  replace hB := nextB hB b2
  replace kr := kr.below b2
  replace ks := ks.below b2
  replace i1 := i1.below b2
  clear b2
  refine (made_any (hb.below hB) hn).mono ?_
  rintro e w3 ⟨v2, rfl, iv, b1⟩
  replace hB := nextB hB b1
  replace kr := kr.below b1
  replace ks := ks.below b1
  replace i1 := i1.below b1
  replace kx := kx.below b1
  obtain ⟨ao4, k4, cap4, rfl, i2⟩ := iv.slice
  clear iv b1
  have b2 := below_alloc w3 (.cells #[.slice ao4 k4 cap4] 25)
  have ky := (Blk.new w3 #[.slice ao4 k4 cap4] 25).bx
  obtain ⟨R2, hR2⟩ : ∃ R, R = w3.heap.size := ⟨_, rfl⟩
  go_wp2
  obtain ⟨w4, hw4⟩ : ∃ w4 : World, w4 = w3.alloc (.cells #[.slice ao4 k4 cap4] 25) := ⟨_, rfl⟩
  rw [← hw4] at b2 ky ⊢
  have hRR : R1 < R2 := by rw [hR2]; exact kx.lt
  rw [← hR2] at ky ⊢
  clear hw4 hR2
  replace hB := nextB hB b2
  replace kr := kr.below b2
  replace ks := ks.below b2
  replace i1 := i1.below b2
  replace i2 := i2.below b2
  replace kx := kx.below b2
  clear b2
  have c1 := kx.cell
  have c2 := ky.cell
  have f1 := kr.free
  have f2 := ks.free
  have c3 := kr.cell
  have c4 := ks.cell
  have ks2 := ks.setOther (R := w.heap.size) (.slice ao k cap) (by omega)
  have c5 : (w4.setCell ⟨w.heap.size, 0, none⟩ (.slice ao k cap)).drew.cell? ⟨w.heap.size + 1, 0, none⟩ = _ := ks2.cell
  have f5 : (w4.setCell ⟨w.heap.size, 0, none⟩ (.slice ao k cap)).drew.frozen? ⟨w.heap.size + 1, 0, none⟩ = _ := ks2.free
  have kr2 := (kr.set (.slice ao k cap)).setOther (R := w.heap.size + 1) (.slice ao4 k4 cap4) (by omega)
  have ks3 := ks2.set (.slice ao4 k4 cap4)
  have d1 : ((w4.setCell ⟨w.heap.size, 0, none⟩ (.slice ao k cap)).setCell ⟨w.heap.size + 1, 0, none⟩ (.slice ao4 k4 cap4)).drew.cell? ⟨w.heap.size, 0, none⟩ = _ := kr2.cell
  have d2 : ((w4.setCell ⟨w.heap.size, 0, none⟩ (.slice ao k cap)).setCell ⟨w.heap.size + 1, 0, none⟩ (.slice ao4 k4 cap4)).drew.cell? ⟨w.heap.size + 1, 0, none⟩ = _ := ks3.cell
  go_region
  go_wp2
  refine bodyPost_ret (v := .tuple #[.agg #[.slice ao k cap], .agg #[.slice ao4 k4 cap4], .bool true]) (by simp [results, Try.results36, go_sem, d1, d2]) rfl ⟨_, _, rfl, ⟨_, rfl, ((i1.setBx kr NoInt.one _).setBx ks2 NoInt.one _).below (Below.refl _ _).drew⟩, ⟨_, rfl, ((i2.setBx kr NoInt.one _).setBx ks2 NoInt.one _).below (Below.refl _ _).drew⟩, ((hB.setCell (Nat.le_refl _) _).setCell (by simp) _).drew⟩

end Go.Proofs.Ytppbhjhbaknidaa
