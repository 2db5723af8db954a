/-
  The contracts of the program's exported methods of numbers. Condition: numbers of at most 2^29 bits.
-/
import Derived.Test.YtppbhjhbaknidaaString
import Derived.Test.YtppbhjhbaknidaaDecLaw
set_option linter.unusedVariables false
set_option linter.unusedSimpArgs false
namespace Go.Proofs.Ytppbhjhbaknidaa
open Go.RowKit

theorem IsNat.slice {w : World} {v : Value} {n : Nat} (h : IsNat w v n) : ∃ ao k cap, v = .agg #[.slice ao k cap] ∧ IsN w (.slice ao k cap) n := by
  obtain ⟨s, rfl, hs⟩ := h
  obtain ⟨ao, k, cap, rfl⟩ := hs.slice
  exact ⟨ao, k, cap, rfl, hs⟩
theorem IsNat.len {w : World} {v : Value} {n : Nat} (h : IsNat w v n) : ∃ ao k cap, v = .agg #[.slice ao k cap] ∧ IsN w (.slice ao k cap) n ∧ (k = 0 ↔ n = 0) ∧ k ≤ 1099511627776 := by
  obtain ⟨s, rfl, hs⟩ := h
  obtain ⟨ao, k, cap, rfl, h1, h2⟩ := hs.len
  exact ⟨ao, k, cap, rfl, hs, h1, h2⟩

/-- What is known of a box: its cell, and that it may be written. -/
structure Bx (w : World) (R : Nat) (s : Value) : Prop where
  blk : Blk w R #[s] 25
  cell : w.cell? ⟨R, 0, none⟩ = some s
  free : w.frozen? ⟨R, 0, none⟩ = false
theorem Blk.bx {w : World} {R : Nat} {s : Value} (h : Blk w R #[s] 25) : Bx w R s := ⟨h, (h.cell 0).trans rfl, h.frozen 0⟩
theorem Bx.below {w w' : World} {R : Nat} {s : Value} (h : Bx w R s) (hb : Below w.heap.size w w') : Bx w' R s := (h.blk.below hb).bx
theorem Bx.lt {w : World} {R : Nat} {s : Value} (h : Bx w R s) : R < w.heap.size := h.blk.lt
theorem Blk.setBx {w : World} {R R2 : Nat} {s : Value} (h : Blk w R2 #[s] 25) (v : Value) (hne : R2 ≠ R) : Blk (w.setCell ⟨R, 0, none⟩ v) R2 #[s] 25 := h.setOther 0 v hne
theorem Bx.setOther {w : World} {R R2 : Nat} {s : Value} (h : Bx w R2 s) (v : Value) (hne : R2 ≠ R) : Bx (w.setCell ⟨R, 0, none⟩ v) R2 s := (h.blk.setBx v hne).bx
theorem IsN.setBx {w : World} {s s' : Value} {n R : Nat} (h : IsN w s n) (hb : Bx w R s') (hn : NoInt #[s']) (v : Value) : IsN (w.setCell ⟨R, 0, none⟩ v) s n := h.setBlk hb.blk hn 0 v

theorem pro1 (w : World) (a : Value) : Below w.heap.size w (w.alloc (.cells #[a] 25)) ∧ Bx (w.alloc (.cells #[a] 25)) w.heap.size a :=
  ⟨(Below.refl _ _).alloc (Nat.le_refl _) _, (Blk.new _ _ _).bx⟩
theorem pro2 (w : World) (a b : Value) : Below w.heap.size w ((w.alloc (.cells #[a] 25)).alloc (.cells #[b] 25)) ∧ Bx ((w.alloc (.cells #[a] 25)).alloc (.cells #[b] 25)) w.heap.size a ∧ Bx ((w.alloc (.cells #[a] 25)).alloc (.cells #[b] 25)) (w.heap.size + 1) b := by
  have hz : (w.alloc (.cells #[a] 25)).heap.size = w.heap.size + 1 := by simp
  refine ⟨(pro1 w a).1.alloc (by simp) _, ((Blk.new _ _ _).alloc _).bx, ?_⟩
  rw [← hz]; exact (Blk.new _ _ _).bx
theorem pro3 (w : World) (a b c : Value) : Below w.heap.size w (((w.alloc (.cells #[a] 25)).alloc (.cells #[b] 25)).alloc (.cells #[c] 25)) ∧
    Bx (((w.alloc (.cells #[a] 25)).alloc (.cells #[b] 25)).alloc (.cells #[c] 25)) w.heap.size a ∧ Bx (((w.alloc (.cells #[a] 25)).alloc (.cells #[b] 25)).alloc (.cells #[c] 25)) (w.heap.size + 1) b ∧
    Bx (((w.alloc (.cells #[a] 25)).alloc (.cells #[b] 25)).alloc (.cells #[c] 25)) (w.heap.size + 1 + 1) c := by
  have hz : ((w.alloc (.cells #[a] 25)).alloc (.cells #[b] 25)).heap.size = w.heap.size + 1 + 1 := by simp
  have h2 := pro2 w a b
  refine ⟨h2.1.alloc (by simp; omega) _, (h2.2.1.blk.alloc _).bx, (h2.2.2.blk.alloc _).bx, ?_⟩
  rw [← hz]; exact (Blk.new _ _ _).bx
theorem pro4 (w : World) (a b c d : Value) : Below w.heap.size w ((((w.alloc (.cells #[a] 25)).alloc (.cells #[b] 25)).alloc (.cells #[c] 25)).alloc (.cells #[d] 25)) ∧
    Bx ((((w.alloc (.cells #[a] 25)).alloc (.cells #[b] 25)).alloc (.cells #[c] 25)).alloc (.cells #[d] 25)) w.heap.size a ∧ Bx ((((w.alloc (.cells #[a] 25)).alloc (.cells #[b] 25)).alloc (.cells #[c] 25)).alloc (.cells #[d] 25)) (w.heap.size + 1) b ∧
    Bx ((((w.alloc (.cells #[a] 25)).alloc (.cells #[b] 25)).alloc (.cells #[c] 25)).alloc (.cells #[d] 25)) (w.heap.size + 1 + 1) c ∧
    Bx ((((w.alloc (.cells #[a] 25)).alloc (.cells #[b] 25)).alloc (.cells #[c] 25)).alloc (.cells #[d] 25)) (w.heap.size + 1 + 1 + 1) d := by
  have hz : (((w.alloc (.cells #[a] 25)).alloc (.cells #[b] 25)).alloc (.cells #[c] 25)).heap.size = w.heap.size + 1 + 1 + 1 := by simp
  have h2 := pro3 w a b c
  refine ⟨h2.1.alloc (by simp; omega) _, (h2.2.1.blk.alloc _).bx, (h2.2.2.1.blk.alloc _).bx, (h2.2.2.2.blk.alloc _).bx, ?_⟩
  rw [← hz]; exact (Blk.new _ _ _).bx

/-- A number alone. -/
def RetNat (w : World) (n : Nat) (e : Ending) (w' : World) : Prop := ∃ v, e = .returned v ∧ IsNat w' v n ∧ Below w.heap.size w w'
def RetB (w : World) (b : Bool) (e : Ending) (w' : World) : Prop := e = .returned (.bool b) ∧ Below w.heap.size w w'
/-- Two numbers and the error code er. -/
def RetEE (w : World) (m n er : Nat) (e : Ending) (w' : World) : Prop := ∃ u v, e = .returned (.tuple #[u, v, .int .i64 er]) ∧ IsNat w' u m ∧ IsNat w' v n ∧ Below w.heap.size w w'

set_option maxHeartbeats 400000 in
theorem Mul_any {w : World} {a b : Value} {m n : Nat} (ha : IsNat w a m) (hb : IsNat w b n) (L : Nat) (hL : L ≤ 1073741824) (hm : m < P2 L) (hn : n < P2 L) :
    Calls Try.prog 37 #[a, b] w (RetE w (m * n) (fitE (m * n))) := by
  obtain ⟨ao, k, cap, rfl, ia⟩ := ha.slice
  obtain ⟨ao2, k2, cap2, rfl, ib⟩ := hb.slice
  clear ha hb
  go_enter Try.func37, Try.ntmps37
  go_wp2_with fail
  obtain ⟨hB, -, -, kr⟩ := pro3 w (.slice ao k cap) (.slice ao2 k2 cap2) (.slice none 0 0)
  refine (mul_any (ia.below hB) (ib.below hB) L (by omega) hm hn).mono ?_
  rintro e w1 ⟨v, rfl, iv, b1⟩
  replace hB := nextB hB b1
  replace kr := kr.below b1
  go_wp2_with fail
  refine (fits_any iv (L + L) (by omega) (mul_lt_P2 hm hn)).mono ?_
  rintro e w2 ⟨v2, rfl, ⟨s2, rfl, is2⟩, b2⟩
  obtain ⟨ao3, k3, cap3, rfl⟩ := is2.slice
  replace hB := nextB hB b2
  replace kr := kr.below b2
  have c1 := kr.cell
  have f1 := kr.free
  go_wp2
  refine bodyPost_ret (v := .tuple #[.agg #[.slice ao3 k3 cap3], .int .i64 (fitE (m * n) : Nat)]) (by simp [results, Try.results37, go_sem, c1]) rfl ⟨_, rfl, ⟨_, rfl, is2.setBx kr NoInt.one _⟩, hB.setCell (by simp; omega) _⟩

set_option maxHeartbeats 400000 in
theorem Cmp_any {w : World} {a b : Value} {m n : Nat} (ha : IsNat w a m) (hb : IsNat w b n) :
    Calls Try.prog 45 #[a, b] w (RetI w (cmpI m n)) := by
  obtain ⟨ao, k, cap, rfl, ia⟩ := ha.slice
  obtain ⟨ao2, k2, cap2, rfl, ib⟩ := hb.slice
  clear ha hb
  go_enter Try.func45, Try.ntmps45
  go_wp2_with fail
  obtain ⟨hB, -, -⟩ := pro2 w (.slice ao k cap) (.slice ao2 k2 cap2)
  refine (cmp_any (ia.below hB) (ib.below hB)).mono ?_
  rintro e w1 ⟨rfl, b1⟩
  go_wp2
  go_ret
  exact ⟨rfl, nextB hB b1⟩

set_option maxHeartbeats 400000 in
theorem BitLen_any {w : World} {a : Value} {n : Nat} (ha : IsNat w a n) (L : Nat) (hL : L ≤ 8589934592) (hn : n < P2 L) :
    Calls Try.prog 61 #[a] w (RetI w (blen n)) := by
  obtain ⟨ao, k, cap, rfl, ia⟩ := ha.slice
  clear ha
  go_enter Try.func61, Try.ntmps61
  go_wp2_with fail
  obtain ⟨hB, -⟩ := pro1 w (.slice ao k cap)
  refine (bitLen_any (ia.below hB) L hL hn).mono ?_
  rintro e w1 ⟨rfl, hw⟩
  subst hw
  go_wp2
  go_ret
  exact ⟨rfl, hB⟩

set_option maxHeartbeats 400000 in
theorem Sqrt_any {w : World} {a : Value} {m : Nat} (ha : IsNat w a m) (L : Nat) (hL : L ≤ 2147483648) (hm : m < P2 L) :
    Calls Try.prog 71 #[a] w fun e w' => ∃ r, IsSqrt r m ∧ RetNat w r e w' := by
  obtain ⟨ao, k, cap, rfl, ia⟩ := ha.slice
  clear ha
  go_enter Try.func71, Try.ntmps71
  go_wp2_with fail
  obtain ⟨hB, -, kr⟩ := pro2 w (.slice ao k cap) (.slice none 0 0)
  refine (sqrt_any (ia.below hB) L hL hm).mono ?_
  rintro e w1 ⟨r, hr, v, rfl, iv, b1⟩
  have HR := Lib.hid hr
  clear hr
  obtain ⟨ao3, k3, cap3, rfl⟩ := iv.slice
  replace hB := nextB hB b1
  replace kr := kr.below b1
  have c1 := kr.cell
  have f1 := kr.free
  go_wp2
  refine bodyPost_ret (v := .agg #[.slice ao3 k3 cap3]) (by simp [results, Try.results71, go_sem, c1]) rfl ⟨r, HR.out, _, rfl, ⟨_, rfl, iv.setBx kr NoInt.one _⟩, hB.setCell (by simp) _⟩

set_option maxHeartbeats 400000 in
theorem Gcd_any {w : World} {a b : Value} {m n : Nat} (ha : IsNat w a m) (hb : IsNat w b n) (L : Nat) (hL : L ≤ 4294967296) (hm : m < P2 L) (hn : n < P2 L) :
    Calls Try.prog 42 #[a, b] w (RetNat w (Nat.gcd m n)) := by
  obtain ⟨ao, k, cap, rfl, ia⟩ := ha.slice
  obtain ⟨ao2, k2, cap2, rfl, ib⟩ := hb.slice
  clear ha hb
  go_enter Try.func42, Try.ntmps42
  go_wp2_with fail
  obtain ⟨hB, -, -, kr⟩ := pro3 w (.slice ao k cap) (.slice ao2 k2 cap2) (.slice none 0 0)
  refine (gcd_any (ia.below hB) (ib.below hB) L hL hm hn).mono ?_
  rintro e w1 ⟨v, rfl, iv, b1⟩
  obtain ⟨ao3, k3, cap3, rfl⟩ := iv.slice
  replace hB := nextB hB b1
  replace kr := kr.below b1
  have c1 := kr.cell
  have f1 := kr.free
  go_wp2
  refine bodyPost_ret (v := .agg #[.slice ao3 k3 cap3]) (by simp [results, Try.results42, go_sem, c1]) rfl ⟨_, rfl, ⟨_, rfl, iv.setBx kr NoInt.one _⟩, hB.setCell (by simp; omega) _⟩

set_option maxHeartbeats 400000 in
theorem Sub_any {w : World} {a b : Value} {m n : Nat} (ha : IsNat w a m) (hb : IsNat w b n) (L : Nat) (hL : L ≤ 1073741824) (hm : m < P2 L) :
    Calls Try.prog 54 #[a, b] w (RetE w (m - n) (if m < n then 10 else 0)) := by
  obtain ⟨ao, k, cap, rfl, ia⟩ := ha.slice
  obtain ⟨ao2, k2, cap2, rfl, ib⟩ := hb.slice
  clear ha hb
  obtain ⟨hB, -, -, kr⟩ := pro3 w (.slice ao k cap) (.slice ao2 k2 cap2) (.slice none 0 0)
  by_cases h : m < n
  · rw [if_pos h]
    have hz := cmpI_lt h
    clear h hm
    go_enter Try.func54, Try.ntmps54
    go_wp2_with fail
    refine (cmp_any (ia.below hB) (ib.below hB)).mono ?_
    rintro e w1 ⟨rfl, b1⟩
    rw [hz]
    clear hz
    replace hB := nextB hB b1
    replace kr := kr.below b1
    have c1 := kr.cell
    have f1 := kr.free
    go_wp2
    refine bodyPost_ret (v := .tuple #[.agg #[.slice none 0 0], .int .i64 (10 : Nat)]) (by simp [results, Try.results54, go_sem, c1]) rfl ⟨_, rfl, IsNat.zero _, hB.setCell (by simp; omega) _⟩
  · rw [if_neg h]
    have hle : n ≤ m := by omega
    have hz := cmpI_ge hle
    have HH := Lib.hid hle
    clear h hle
    go_enter Try.func54, Try.ntmps54
    go_wp2_with fail
    refine (cmp_any (ia.below hB) (ib.below hB)).mono ?_
    rintro e w1 ⟨rfl, b1⟩
    generalize cmpI m n = z at hz ⊢
    have hd : decide (z < 0) = false := decide_eq_false (by omega)
    have ia1 := ia.below (nextB hB b1)
    have ib1 := ib.below (nextB hB b1)
    have kx := (pro3 w (.slice ao k cap) (.slice ao2 k2 cap2) (.slice none 0 0)).2
    have ka := kx.1.below b1
    have kb := kx.2.1.below b1
    have ca := ka.cell
    have cb := kb.cell
    replace hB := nextB hB b1
    replace kr := kr.below b1
    clear kx ka kb
    go_wp2_with fail
    refine (sub_any ia1 ib1 L (by omega) hm HH.out).mono ?_
    rintro e w2 ⟨v, rfl, iv, b2⟩
    obtain ⟨ao3, k3, cap3, rfl⟩ := iv.slice
    replace hB := nextB hB b2
    replace kr := kr.below b2
    have c1 := kr.cell
    have f1 := kr.free
    go_wp2
    refine bodyPost_ret (v := .tuple #[.agg #[.slice ao3 k3 cap3], .int .i64 (0 : Nat)]) (by simp [results, Try.results54, go_sem, c1]) rfl ⟨_, rfl, ⟨_, rfl, iv.setBx kr NoInt.one _⟩, hB.setCell (by simp; omega) _⟩

set_option maxHeartbeats 400000 in
theorem New_any {w : World} (n : Nat) (hn : n < 9223372036854775808) :
    Calls Try.prog 65 #[.int .i64 n] w (RetE w n 0) := by
  obtain ⟨hB, kr⟩ := pro1 w (.slice none 0 0)
  have hd : decide ((n : Int) < 0) = false := decide_eq_false (by omega)
  go_enter Try.func65, Try.ntmps65
  go_wp2_with fail
  refine (words_any n _ (by omega) (by omega)).mono ?_
  rintro e w2 ⟨v, rfl, iv, b2⟩
  rw [Int.toNat_natCast] at iv
  obtain ⟨ao3, k3, cap3, rfl⟩ := iv.slice
  replace hB := nextB hB b2
  replace kr := kr.below b2
  have c1 := kr.cell
  have f1 := kr.free
  go_wp2
  refine bodyPost_ret (v := .tuple #[.agg #[.slice ao3 k3 cap3], .int .i64 (0 : Nat)]) (by simp [results, Try.results65, go_sem, c1]) rfl ⟨_, rfl, ⟨_, rfl, iv.setBx kr NoInt.one _⟩, hB.setCell (by simp) _⟩

set_option maxHeartbeats 400000 in
theorem New_neg {w : World} (n : Int) (hn : n < 0) (h2 : -9223372036854775808 ≤ n) :
    Calls Try.prog 65 #[.int .i64 n] w (RetE w 0 2) := by
  obtain ⟨hB, kr⟩ := pro1 w (.slice none 0 0)
  have c1 := kr.cell
  have f1 := kr.free
  go_enter Try.func65, Try.ntmps65
  go_wp2
  refine bodyPost_ret (v := .tuple #[.agg #[.slice none 0 0], .int .i64 (2 : Nat)]) (by simp [results, Try.results65, go_sem]) rfl ⟨_, rfl, IsNat.zero _, hB⟩

set_option maxHeartbeats 400000 in
theorem DivMod_zero {w : World} {a b : Value} {m : Nat} (ha : IsNat w a m) (hb : IsNat w b 0) :
    Calls Try.prog 58 #[a, b] w (RetEE w 0 0 11) := by
  obtain ⟨ao, k, cap, rfl, ia⟩ := ha.slice
  obtain ⟨ao2, k2, cap2, rfl, ib, hk, -⟩ := hb.len
  obtain rfl := hk.2 rfl
  clear ha hb hk
  obtain ⟨hB, ka, kb, kc, kd⟩ := pro4 w (.slice ao k cap) (.slice ao2 0 cap2) (.slice none 0 0) (.slice none 0 0)
  go_enter Try.func58, Try.ntmps58
  go_wp2
  refine bodyPost_ret (v := .tuple #[.agg #[.slice none 0 0], .agg #[.slice none 0 0], .int .i64 (11 : Nat)]) (by simp [results, Try.results58, go_sem]) rfl ⟨_, _, rfl, IsNat.zero _, IsNat.zero _, hB⟩

set_option maxHeartbeats 400000 in
theorem DivMod_any {w : World} {a b : Value} {m n : Nat} (ha : IsNat w a m) (hb : IsNat w b n) (hn : 0 < n) (L : Nat) (hL : L ≤ 4294967296) (hm : m < P2 L) :
    Calls Try.prog 58 #[a, b] w (RetEE w (m / n) (m % n) 0) := by
  obtain ⟨ao, k, cap, rfl, ia⟩ := ha.slice
  obtain ⟨ao2, k2, cap2, rfl, ib, hk, hk2⟩ := hb.len
  have hd : ((k2 : Int) == 0) = false := by
    rw [beq_eq_false_iff_ne]; intro hc; have := hk.1 (by omega); omega
  clear ha hb hk
  obtain ⟨hB, ka, kb, kc, kd⟩ := pro4 w (.slice ao k cap) (.slice ao2 k2 cap2) (.slice none 0 0) (.slice none 0 0)
  go_enter Try.func58, Try.ntmps58
  go_wp2_with fail
  refine (divMod_any (ia.below hB) (ib.below hB) hn L hL hm).mono ?_
  rintro e w2 ⟨u, v, rfl, iu, iv, b2⟩
  obtain ⟨ao3, k3, cap3, rfl⟩ := iu.slice
  obtain ⟨ao4, k4, cap4, rfl⟩ := iv.slice
  generalize m / n = q at *
  generalize m % n = r at *
  replace hB := nextB hB b2
  replace kc := kc.below b2
  replace kd := kd.below b2
  clear ka kb
  have c1 := kc.cell
  have f1 := kc.free
  have c2 := kd.cell
  have f2 := kd.free
  have kd2 := kd.setOther (R := w.heap.size + 1 + 1) (.slice ao3 k3 cap3) (by omega)
  have c3 := kd2.cell
  have f3 := kd2.free
  go_wp2
  refine bodyPost_ret (v := .tuple #[.agg #[.slice ao3 k3 cap3], .agg #[.slice ao4 k4 cap4], .int .i64 (0 : Nat)]) (by simp [results, Try.results58, go_sem, c1, c2, c3]) rfl ⟨_, _, rfl, ⟨_, rfl, (iu.setBx kc NoInt.one _).setBx kd2 NoInt.one _⟩, ⟨_, rfl, (iv.setBx kc NoInt.one _).setBx kd2 NoInt.one _⟩, (hB.setCell (by simp; omega) _).setCell (by simp; omega) _⟩


end Go.Proofs.Ytppbhjhbaknidaa
