/-
  Numerals and numbers: plain laws. No condition. The contracts of the program's exported methods of numbers. Condition: numbers of at most 2^29 bits. The contracts of the program's fractions: den, lowest, within, NewFrac. Condition: numbers of at most 2^28 bits. The contracts of the statements' helpers: is, told, made, two, fit. Condition: numbers of at most 2^29 bits. The contract of the statements' awake: it returns true. No condition. The contract of the specification's Parse. Condition: strings of at most 2^40 bytes. What the frame of each law's proof shares: the closed facts of the program, and a slice of integers that came in. No condition.
-/
import Derived.Test.YtppbhjhbaknidaaZc
import Derived.KernelRfl
import Derived.Deep.RegionHeld3
import Derived.RegionTactic
import Derived.Test.YtppbhjhbaknidaaRows
import Derived.WalkKit
import Derived.ProofKit
import Derived.OpenShut
import Derived.ShutString
import Derived.ChangeOld
import Derived.Below
set_option linter.unusedVariables false
set_option linter.unusedSimpArgs false

/-
  Numerals and numbers: plain laws. No condition.
-/
set_option linter.unusedVariables false
namespace Go.Proofs.Ytppbhjhbaknidaa

/-- The numeral's number. -/
theorem numOf_rdec (n : Nat) : numOf (rdec n).reverse = n := by
  induction n using Nat.strongRecOn with
  | ind n ih =>
    by_cases h : n = 0
    · subst h; rw [rdec_zero]; rfl
    · rw [rdec_pos h, List.reverse_cons, numOf_snoc, ih (n / 10) (by omega)]
      omega
theorem numOf_decs (n : Nat) : numOf (decs n) = n := by
  unfold decs
  split
  · next h => subst h; rfl
  · exact numOf_rdec n

theorem rdec_last {n : Nat} (h : n ≠ 0) : (rdec n).reverse.head? ≠ some 48 ∧ (rdec n).reverse ≠ [] := by
  induction n using Nat.strongRecOn with
  | ind n ih =>
    rw [rdec_pos h, List.reverse_cons]
    by_cases h1 : n / 10 = 0
    · rw [h1, rdec_zero]
      refine ⟨?_, by simp⟩
      simp
      omega
    · have ⟨h2, h3⟩ := ih (n / 10) (by omega) h1
      refine ⟨?_, by simp⟩
      rw [List.head?_append]
      cases hr : (rdec (n / 10)).reverse with
      | nil => exact absurd hr h3
      | cons x xs => rw [hr] at h2; simpa using h2

theorem nth_head (l : List Nat) (h : l ≠ []) : l.head? = some (nth l 0) := by
  cases l with
  | nil => exact absurd rfl h
  | cons x xs => rfl

theorem decs_byte (n : Nat) : ∀ x ∈ decs n, 48 ≤ x ∧ x ≤ 57 := by
  intro x hx
  unfold decs at hx
  split at hx
  · rw [List.mem_singleton] at hx; omega
  · exact rdec_byte n x (List.mem_reverse.1 hx)

theorem decs_ne (n : Nat) : decs n ≠ [] := by
  unfold decs
  split
  · simp
  · next h => exact (rdec_last h).2

theorem decs_num (n : Nat) : IsNum (decs n) := by
  refine ⟨decs_ne n, ?_, fun i hi => ?_⟩
  · unfold decs
    split
    · simp
    · next h =>
      have ⟨h1, h2⟩ := rdec_last h
      rw [nth_head _ h2] at h1
      intro hc
      exact h1 (congrArg some hc.1)
  · rw [nth_lt hi]
    exact decs_byte n _ (List.getElem_mem hi)

/-- 10 to the power k, behind a name. -/
def P10 (k : Nat) : Nat := 10 ^ k
theorem P10_succ (k : Nat) : P10 (k + 1) = P10 k * 10 := Nat.pow_succ 10 k
theorem pow_lim' : Nat.ble (P2 16384) (P10 4933) = true := by kernel_rfl
theorem pow_lim : P2 16384 ≤ P10 4933 := Nat.le_of_ble_eq_true pow_lim'

theorem rdec_pow {n : Nat} : ∀ {k : Nat}, n < P10 k → (rdec n).length ≤ k := by
  induction n using Nat.strongRecOn with
  | ind n ih =>
    intro k hk
    by_cases h : n = 0
    · subst h; rw [rdec_zero]; exact Nat.zero_le _
    · rw [rdec_pos h, List.length_cons]
      match k, hk with
      | 0, hk => unfold P10 at hk; omega
      | k + 1, hk =>
        rw [P10_succ] at hk
        have := ih (n / 10) (by omega) (k := k) (by omega)
        omega

theorem decs_len {n : Nat} (h : n < P2 16384) : (decs n).length ≤ 4933 := by
  unfold decs
  split
  · simp
  · rw [List.length_reverse]
    exact rdec_pow (Nat.lt_of_lt_of_le h pow_lim)

/-- A numeral of the limit's length and more does not fit. -/
theorem rdec_ge {n : Nat} : ∀ {k : Nat}, k < (rdec n).length → P10 k ≤ n := by
  intro k hk
  refine Nat.le_of_not_lt fun hc => ?_
  have := rdec_pow hc
  omega

theorem num_list {l : List Nat} (h : ∀ x ∈ l, Digit x) (h0 : l.head? ≠ some 48) : rdec (numOf l.reverse.reverse) = l.reverse := by
  suffices ∀ r : List Nat, (∀ x ∈ r, Digit x) → r.getLast? ≠ some 48 → rdec (numOf r.reverse) = r by
    have := this l.reverse (fun x hx => h x (List.mem_reverse.1 hx)) (by rw [List.getLast?_reverse]; exact h0)
    exact this
  intro r
  induction r with
  | nil => intro _ _; exact rdec_zero
  | cons x xs ih =>
    intro hd hl
    have hx := hd x (List.mem_cons_self ..)
    unfold Digit at hx
    rw [List.reverse_cons, numOf_snoc]
    cases xs with
    | nil =>
      simp at hl
      rw [rdec_pos (by simp [numOf]; omega)]
      simp [numOf]
      refine ⟨by omega, ?_⟩
      rw [show (x - 48) / 10 = 0 by omega, rdec_zero]
    | cons y ys =>
      have ih' := ih (fun z hz => hd z (List.mem_cons_of_mem _ hz)) (by simpa [List.getLast?_cons] using hl)
      have hne : numOf (y :: ys).reverse ≠ 0 := fun h0 => by rw [h0, rdec_zero] at ih'; cases ih'
      rw [rdec_pos (by omega), show (10 * numOf (y :: ys).reverse + (x - 48)) / 10 = numOf (y :: ys).reverse by omega, ih', show 48 + (10 * numOf (y :: ys).reverse + (x - 48)) % 10 = x by omega]

theorem IsNum.dg {l : List Nat} (h : IsNum l) : ∀ x ∈ l, Digit x := by
  intro x hx
  obtain ⟨i, hi, rfl⟩ := List.getElem_of_mem hx
  have := h.2.2 i hi
  rw [nth_lt hi] at this
  exact this

theorem decs_numOf {l : List Nat} (h : IsNum l) : decs (numOf l) = l := by
  by_cases h0 : nth l 0 = 48
  · have h1 : l.length = 1 := by
      have := h.2.1
      have := List.length_pos_iff.2 h.1
      omega
    match l, h1 with
    | [x], _ =>
      have : x = 48 := h0
      subst this
      rfl
  · have hh : l.head? ≠ some 48 := by
      rw [nth_head l h.1]; intro hc; exact h0 (Option.some.inj hc)
    have e := num_list h.dg hh
    rw [List.reverse_reverse] at e
    unfold decs
    have hne : numOf l ≠ 0 := by
      intro hc
      rw [hc, rdec_zero] at e
      exact h.1 (List.reverse_eq_nil_iff.1 e.symm)
    rw [if_neg hne, e, List.reverse_reverse]

theorem num_ge {l : List Nat} (h : IsNum l) (hl : 4933 < l.length) : P10 4933 ≤ numOf l := by
  have e := decs_numOf h
  unfold decs at e
  split at e
  · rw [← e] at hl; simp at hl
  · refine rdec_ge ?_
    rw [← List.length_reverse, e]; exact hl

theorem fitE_big {n : Nat} (h : P10 4933 ≤ n) : fitE n = 3 := by
  unfold fitE
  rw [if_neg]
  have := pow_lim
  omega

/-- The error of Parse, without the lengths. -/
theorem parseE_eq (l : List Nat) : parseE l = if IsNum l then fitE (numOf l) else 4 := by
  unfold parseE
  split
  · next h =>
    split
    · rfl
    · next hl => rw [fitE_big (num_ge h (by omega))]
  · rfl

theorem byts_txt (n : Nat) : byts (txt n) = decs n := byts_bstr fun x hx => by have := decs_byte n x hx; omega

theorem parseE_txt {n : Nat} (h : n < P2 16384) : parseE (byts (txt n)) = 0 := by
  rw [parseE_eq, byts_txt, if_pos (decs_num n), numOf_decs]
  exact if_pos h
theorem numOf_txt (n : Nat) : numOf (byts (txt n)) = n := by rw [byts_txt, numOf_decs]
theorem txt_inj {m n : Nat} (h : txt m = txt n) : m = n := by
  rw [← numOf_txt m, h, numOf_txt]

end Go.Proofs.Ytppbhjhbaknidaa

/-
  The contracts of the program's exported methods of numbers. Condition: numbers of at most 2^29 bits.
-/
set_option linter.unusedVariables false
set_option linter.unusedSimpArgs false
namespace Go.Proofs.Ytppbhjhbaknidaa
open Go.RowKit

theorem IsNat.slice {w : World} {v : Value} {n : Nat} (h : IsNat w v n) : ∃ ao k cap, v = .agg #[.slice ao k cap] ∧ IsN w (.slice ao k cap) n := by
  obtain ⟨s, rfl, hs⟩ := h
  obtain ⟨ao, k, cap, rfl⟩ := hs.slice
  exact ⟨ao, k, cap, rfl, hs⟩
theorem IsNat.len {w : World} {v : Value} {n : Nat} (h : IsNat w v n) : ∃ ao k cap, v = .agg #[.slice ao k cap] ∧ IsN w (.slice ao k cap) n ∧ (k = 0 ↔ n = 0) ∧ k ≤ 1099511627776 := by
  obtain ⟨s, rfl, hs⟩ := h
  obtain ⟨ao, k, cap, rfl, h1, h2⟩ := hs.len
  exact ⟨ao, k, cap, rfl, hs, h1, h2⟩

/-- What is known of a box: its cell, and that it may be written. -/
structure Bx (w : World) (R : Nat) (s : Value) : Prop where
  blk : Blk w R #[s] 25
  cell : w.cell? ⟨R, 0, none⟩ = some s
  free : w.frozen? ⟨R, 0, none⟩ = false
theorem Blk.bx {w : World} {R : Nat} {s : Value} (h : Blk w R #[s] 25) : Bx w R s := ⟨h, (h.cell 0).trans rfl, h.frozen 0⟩
theorem Bx.below {w w' : World} {R : Nat} {s : Value} (h : Bx w R s) (hb : Below w.heap.size w w') : Bx w' R s := (h.blk.below hb).bx
theorem Bx.lt {w : World} {R : Nat} {s : Value} (h : Bx w R s) : R < w.heap.size := h.blk.lt
theorem Blk.setBx {w : World} {R R2 : Nat} {s : Value} (h : Blk w R2 #[s] 25) (v : Value) (hne : R2 ≠ R) : Blk (w.setCell ⟨R, 0, none⟩ v) R2 #[s] 25 := h.setOther 0 v hne
theorem Bx.setOther {w : World} {R R2 : Nat} {s : Value} (h : Bx w R2 s) (v : Value) (hne : R2 ≠ R) : Bx (w.setCell ⟨R, 0, none⟩ v) R2 s := (h.blk.setBx v hne).bx
theorem IsN.setBx {w : World} {s s' : Value} {n R : Nat} (h : IsN w s n) (hb : Bx w R s') (hn : NoInt #[s']) (v : Value) : IsN (w.setCell ⟨R, 0, none⟩ v) s n := h.setBlk hb.blk hn 0 v

theorem pro1 (w : World) (a : Value) : Below w.heap.size w (w.alloc (.cells #[a] 25)) ∧ Bx (w.alloc (.cells #[a] 25)) w.heap.size a :=
  ⟨(Below.refl _ _).alloc (Nat.le_refl _) _, (Blk.new _ _ _).bx⟩
theorem pro2 (w : World) (a b : Value) : Below w.heap.size w ((w.alloc (.cells #[a] 25)).alloc (.cells #[b] 25)) ∧ Bx ((w.alloc (.cells #[a] 25)).alloc (.cells #[b] 25)) w.heap.size a ∧ Bx ((w.alloc (.cells #[a] 25)).alloc (.cells #[b] 25)) (w.heap.size + 1) b := by
  have hz : (w.alloc (.cells #[a] 25)).heap.size = w.heap.size + 1 := by simp
  refine ⟨(pro1 w a).1.alloc (by simp) _, ((Blk.new _ _ _).alloc _).bx, ?_⟩
  rw [← hz]; exact (Blk.new _ _ _).bx
theorem pro3 (w : World) (a b c : Value) : Below w.heap.size w (((w.alloc (.cells #[a] 25)).alloc (.cells #[b] 25)).alloc (.cells #[c] 25)) ∧
    Bx (((w.alloc (.cells #[a] 25)).alloc (.cells #[b] 25)).alloc (.cells #[c] 25)) w.heap.size a ∧ Bx (((w.alloc (.cells #[a] 25)).alloc (.cells #[b] 25)).alloc (.cells #[c] 25)) (w.heap.size + 1) b ∧
    Bx (((w.alloc (.cells #[a] 25)).alloc (.cells #[b] 25)).alloc (.cells #[c] 25)) (w.heap.size + 1 + 1) c := by
  have hz : ((w.alloc (.cells #[a] 25)).alloc (.cells #[b] 25)).heap.size = w.heap.size + 1 + 1 := by simp
  have h2 := pro2 w a b
  refine ⟨h2.1.alloc (by simp; omega) _, (h2.2.1.blk.alloc _).bx, (h2.2.2.blk.alloc _).bx, ?_⟩
  rw [← hz]; exact (Blk.new _ _ _).bx
theorem pro4 (w : World) (a b c d : Value) : Below w.heap.size w ((((w.alloc (.cells #[a] 25)).alloc (.cells #[b] 25)).alloc (.cells #[c] 25)).alloc (.cells #[d] 25)) ∧
    Bx ((((w.alloc (.cells #[a] 25)).alloc (.cells #[b] 25)).alloc (.cells #[c] 25)).alloc (.cells #[d] 25)) w.heap.size a ∧ Bx ((((w.alloc (.cells #[a] 25)).alloc (.cells #[b] 25)).alloc (.cells #[c] 25)).alloc (.cells #[d] 25)) (w.heap.size + 1) b ∧
    Bx ((((w.alloc (.cells #[a] 25)).alloc (.cells #[b] 25)).alloc (.cells #[c] 25)).alloc (.cells #[d] 25)) (w.heap.size + 1 + 1) c ∧
    Bx ((((w.alloc (.cells #[a] 25)).alloc (.cells #[b] 25)).alloc (.cells #[c] 25)).alloc (.cells #[d] 25)) (w.heap.size + 1 + 1 + 1) d := by
  have hz : (((w.alloc (.cells #[a] 25)).alloc (.cells #[b] 25)).alloc (.cells #[c] 25)).heap.size = w.heap.size + 1 + 1 + 1 := by simp
  have h2 := pro3 w a b c
  refine ⟨h2.1.alloc (by simp; omega) _, (h2.2.1.blk.alloc _).bx, (h2.2.2.1.blk.alloc _).bx, (h2.2.2.2.blk.alloc _).bx, ?_⟩
  rw [← hz]; exact (Blk.new _ _ _).bx

/-- A number alone. -/
def RetNat (w : World) (n : Nat) (e : Ending) (w' : World) : Prop := ∃ v, e = .returned v ∧ IsNat w' v n ∧ Below w.heap.size w w'
def RetB (w : World) (b : Bool) (e : Ending) (w' : World) : Prop := e = .returned (.bool b) ∧ Below w.heap.size w w'
/-- Two numbers and the error code er. -/
def RetEE (w : World) (m n er : Nat) (e : Ending) (w' : World) : Prop := ∃ u v, e = .returned (.tuple #[u, v, .int .i64 er]) ∧ IsNat w' u m ∧ IsNat w' v n ∧ Below w.heap.size w w'

set_option maxHeartbeats 400000 in
theorem Mul_any {w : World} {a b : Value} {m n : Nat} (ha : IsNat w a m) (hb : IsNat w b n) (L : Nat) (hL : L ≤ 1073741824) (hm : m < P2 L) (hn : n < P2 L) :
    Calls Try.prog 37 #[a, b] w (RetE w (m * n) (fitE (m * n))) := by
  obtain ⟨ao, k, cap, rfl, ia⟩ := ha.slice
  obtain ⟨ao2, k2, cap2, rfl, ib⟩ := hb.slice
  clear ha hb
  go_enter Try.func37, Try.ntmps37
  go_wp2_with fail
  obtain ⟨hB, -, -, kr⟩ := pro3 w (.slice ao k cap) (.slice ao2 k2 cap2) (.slice none 0 0)
  refine (mul_any (ia.below hB) (ib.below hB) L (by omega) hm hn).mono ?_
  rintro e w1 ⟨v, rfl, iv, b1⟩
  replace hB := nextB hB b1
  replace kr := kr.below b1
  go_wp2_with fail
  refine (fits_any iv (L + L) (by omega) (mul_lt_P2 hm hn)).mono ?_
  rintro e w2 ⟨v2, rfl, ⟨s2, rfl, is2⟩, b2⟩
  obtain ⟨ao3, k3, cap3, rfl⟩ := is2.slice
  replace hB := nextB hB b2
  replace kr := kr.below b2
  have c1 := kr.cell
  have f1 := kr.free
  go_wp2
  refine bodyPost_ret (v := .tuple #[.agg #[.slice ao3 k3 cap3], .int .i64 (fitE (m * n) : Nat)]) (by simp [results, Try.results37, go_sem, c1]) rfl ⟨_, rfl, ⟨_, rfl, is2.setBx kr NoInt.one _⟩, hB.setCell (by simp; omega) _⟩

set_option maxHeartbeats 400000 in
theorem Cmp_any {w : World} {a b : Value} {m n : Nat} (ha : IsNat w a m) (hb : IsNat w b n) :
    Calls Try.prog 45 #[a, b] w (RetI w (cmpI m n)) := by
  obtain ⟨ao, k, cap, rfl, ia⟩ := ha.slice
  obtain ⟨ao2, k2, cap2, rfl, ib⟩ := hb.slice
  clear ha hb
  go_enter Try.func45, Try.ntmps45
  go_wp2_with fail
  obtain ⟨hB, -, -⟩ := pro2 w (.slice ao k cap) (.slice ao2 k2 cap2)
  refine (cmp_any (ia.below hB) (ib.below hB)).mono ?_
  rintro e w1 ⟨rfl, b1⟩
  go_wp2
  go_ret
  exact ⟨rfl, nextB hB b1⟩

set_option maxHeartbeats 400000 in
theorem BitLen_any {w : World} {a : Value} {n : Nat} (ha : IsNat w a n) (L : Nat) (hL : L ≤ 8589934592) (hn : n < P2 L) :
    Calls Try.prog 61 #[a] w (RetI w (blen n)) := by
  obtain ⟨ao, k, cap, rfl, ia⟩ := ha.slice
  clear ha
  go_enter Try.func61, Try.ntmps61
  go_wp2_with fail
  obtain ⟨hB, -⟩ := pro1 w (.slice ao k cap)
  refine (bitLen_any (ia.below hB) L hL hn).mono ?_
  rintro e w1 ⟨rfl, hw⟩
  subst hw
  go_wp2
  go_ret
  exact ⟨rfl, hB⟩

set_option maxHeartbeats 400000 in
theorem Sqrt_any {w : World} {a : Value} {m : Nat} (ha : IsNat w a m) (L : Nat) (hL : L ≤ 2147483648) (hm : m < P2 L) :
    Calls Try.prog 71 #[a] w fun e w' => ∃ r, IsSqrt r m ∧ RetNat w r e w' := by
  obtain ⟨ao, k, cap, rfl, ia⟩ := ha.slice
  clear ha
  go_enter Try.func71, Try.ntmps71
  go_wp2_with fail
  obtain ⟨hB, -, kr⟩ := pro2 w (.slice ao k cap) (.slice none 0 0)
  refine (sqrt_any (ia.below hB) L hL hm).mono ?_
  rintro e w1 ⟨r, hr, v, rfl, iv, b1⟩
  have HR := Lib.hid hr
  clear hr
  obtain ⟨ao3, k3, cap3, rfl⟩ := iv.slice
  replace hB := nextB hB b1
  replace kr := kr.below b1
  have c1 := kr.cell
  have f1 := kr.free
  go_wp2
  refine bodyPost_ret (v := .agg #[.slice ao3 k3 cap3]) (by simp [results, Try.results71, go_sem, c1]) rfl ⟨r, HR.out, _, rfl, ⟨_, rfl, iv.setBx kr NoInt.one _⟩, hB.setCell (by simp) _⟩

set_option maxHeartbeats 400000 in
theorem Gcd_any {w : World} {a b : Value} {m n : Nat} (ha : IsNat w a m) (hb : IsNat w b n) (L : Nat) (hL : L ≤ 4294967296) (hm : m < P2 L) (hn : n < P2 L) :
    Calls Try.prog 42 #[a, b] w (RetNat w (Nat.gcd m n)) := by
  obtain ⟨ao, k, cap, rfl, ia⟩ := ha.slice
  obtain ⟨ao2, k2, cap2, rfl, ib⟩ := hb.slice
  clear ha hb
  go_enter Try.func42, Try.ntmps42
  go_wp2_with fail
  obtain ⟨hB, -, -, kr⟩ := pro3 w (.slice ao k cap) (.slice ao2 k2 cap2) (.slice none 0 0)
  refine (gcd_any (ia.below hB) (ib.below hB) L hL hm hn).mono ?_
  rintro e w1 ⟨v, rfl, iv, b1⟩
  obtain ⟨ao3, k3, cap3, rfl⟩ := iv.slice
  replace hB := nextB hB b1
  replace kr := kr.below b1
  have c1 := kr.cell
  have f1 := kr.free
  go_wp2
  refine bodyPost_ret (v := .agg #[.slice ao3 k3 cap3]) (by simp [results, Try.results42, go_sem, c1]) rfl ⟨_, rfl, ⟨_, rfl, iv.setBx kr NoInt.one _⟩, hB.setCell (by simp; omega) _⟩

set_option maxHeartbeats 400000 in
theorem Sub_any {w : World} {a b : Value} {m n : Nat} (ha : IsNat w a m) (hb : IsNat w b n) (L : Nat) (hL : L ≤ 1073741824) (hm : m < P2 L) :
    Calls Try.prog 54 #[a, b] w (RetE w (m - n) (if m < n then 10 else 0)) := by
  obtain ⟨ao, k, cap, rfl, ia⟩ := ha.slice
  obtain ⟨ao2, k2, cap2, rfl, ib⟩ := hb.slice
  clear ha hb
  obtain ⟨hB, -, -, kr⟩ := pro3 w (.slice ao k cap) (.slice ao2 k2 cap2) (.slice none 0 0)
  by_cases h : m < n
  · rw [if_pos h]
    have hz := cmpI_lt h
    clear h hm
    go_enter Try.func54, Try.ntmps54
    go_wp2_with fail
    refine (cmp_any (ia.below hB) (ib.below hB)).mono ?_
    rintro e w1 ⟨rfl, b1⟩
    rw [hz]
    clear hz
    replace hB := nextB hB b1
    replace kr := kr.below b1
    have c1 := kr.cell
    have f1 := kr.free
    go_wp2
    refine bodyPost_ret (v := .tuple #[.agg #[.slice none 0 0], .int .i64 (10 : Nat)]) (by simp [results, Try.results54, go_sem, c1]) rfl ⟨_, rfl, IsNat.zero _, hB.setCell (by simp; omega) _⟩
  · rw [if_neg h]
    have hle : n ≤ m := by omega
    have hz := cmpI_ge hle
    have HH := Lib.hid hle
    clear h hle
    go_enter Try.func54, Try.ntmps54
    go_wp2_with fail
    refine (cmp_any (ia.below hB) (ib.below hB)).mono ?_
    rintro e w1 ⟨rfl, b1⟩
    generalize cmpI m n = z at hz ⊢
    have hd : decide (z < 0) = false := decide_eq_false (by omega)
    have ia1 := ia.below (nextB hB b1)
    have ib1 := ib.below (nextB hB b1)
    have kx := (pro3 w (.slice ao k cap) (.slice ao2 k2 cap2) (.slice none 0 0)).2
    have ka := kx.1.below b1
    have kb := kx.2.1.below b1
    have ca := ka.cell
    have cb := kb.cell
    replace hB := nextB hB b1
    replace kr := kr.below b1
    clear kx ka kb
    go_wp2_with fail
    refine (sub_any ia1 ib1 L (by omega) hm HH.out).mono ?_
    rintro e w2 ⟨v, rfl, iv, b2⟩
    obtain ⟨ao3, k3, cap3, rfl⟩ := iv.slice
    replace hB := nextB hB b2
    replace kr := kr.below b2
    have c1 := kr.cell
    have f1 := kr.free
    go_wp2
    refine bodyPost_ret (v := .tuple #[.agg #[.slice ao3 k3 cap3], .int .i64 (0 : Nat)]) (by simp [results, Try.results54, go_sem, c1]) rfl ⟨_, rfl, ⟨_, rfl, iv.setBx kr NoInt.one _⟩, hB.setCell (by simp; omega) _⟩

set_option maxHeartbeats 400000 in
theorem New_any {w : World} (n : Nat) (hn : n < 9223372036854775808) :
    Calls Try.prog 65 #[.int .i64 n] w (RetE w n 0) := by
  obtain ⟨hB, kr⟩ := pro1 w (.slice none 0 0)
  have hd : decide ((n : Int) < 0) = false := decide_eq_false (by omega)
  go_enter Try.func65, Try.ntmps65
  go_wp2_with fail
  refine (words_any n _ (by omega) (by omega)).mono ?_
  rintro e w2 ⟨v, rfl, iv, b2⟩
  rw [Int.toNat_natCast] at iv
  obtain ⟨ao3, k3, cap3, rfl⟩ := iv.slice
  replace hB := nextB hB b2
  replace kr := kr.below b2
  have c1 := kr.cell
  have f1 := kr.free
  go_wp2
  refine bodyPost_ret (v := .tuple #[.agg #[.slice ao3 k3 cap3], .int .i64 (0 : Nat)]) (by simp [results, Try.results65, go_sem, c1]) rfl ⟨_, rfl, ⟨_, rfl, iv.setBx kr NoInt.one _⟩, hB.setCell (by simp) _⟩

set_option maxHeartbeats 400000 in
theorem New_neg {w : World} (n : Int) (hn : n < 0) (h2 : -9223372036854775808 ≤ n) :
    Calls Try.prog 65 #[.int .i64 n] w (RetE w 0 2) := by
  obtain ⟨hB, kr⟩ := pro1 w (.slice none 0 0)
  have c1 := kr.cell
  have f1 := kr.free
  go_enter Try.func65, Try.ntmps65
  go_wp2
  refine bodyPost_ret (v := .tuple #[.agg #[.slice none 0 0], .int .i64 (2 : Nat)]) (by simp [results, Try.results65, go_sem]) rfl ⟨_, rfl, IsNat.zero _, hB⟩

set_option maxHeartbeats 400000 in
theorem DivMod_zero {w : World} {a b : Value} {m : Nat} (ha : IsNat w a m) (hb : IsNat w b 0) :
    Calls Try.prog 58 #[a, b] w (RetEE w 0 0 11) := by
  obtain ⟨ao, k, cap, rfl, ia⟩ := ha.slice
  obtain ⟨ao2, k2, cap2, rfl, ib, hk, -⟩ := hb.len
  obtain rfl := hk.2 rfl
  clear ha hb hk
  obtain ⟨hB, ka, kb, kc, kd⟩ := pro4 w (.slice ao k cap) (.slice ao2 0 cap2) (.slice none 0 0) (.slice none 0 0)
  go_enter Try.func58, Try.ntmps58
  go_wp2
  refine bodyPost_ret (v := .tuple #[.agg #[.slice none 0 0], .agg #[.slice none 0 0], .int .i64 (11 : Nat)]) (by simp [results, Try.results58, go_sem]) rfl ⟨_, _, rfl, IsNat.zero _, IsNat.zero _, hB⟩

set_option maxHeartbeats 400000 in
theorem DivMod_any {w : World} {a b : Value} {m n : Nat} (ha : IsNat w a m) (hb : IsNat w b n) (hn : 0 < n) (L : Nat) (hL : L ≤ 4294967296) (hm : m < P2 L) :
    Calls Try.prog 58 #[a, b] w (RetEE w (m / n) (m % n) 0) := by
  obtain ⟨ao, k, cap, rfl, ia⟩ := ha.slice
  obtain ⟨ao2, k2, cap2, rfl, ib, hk, hk2⟩ := hb.len
  have hd : ((k2 : Int) == 0) = false := by
    rw [beq_eq_false_iff_ne]; intro hc; have := hk.1 (by omega); omega
  clear ha hb hk
  obtain ⟨hB, ka, kb, kc, kd⟩ := pro4 w (.slice ao k cap) (.slice ao2 k2 cap2) (.slice none 0 0) (.slice none 0 0)
  go_enter Try.func58, Try.ntmps58
  go_wp2_with fail
  refine (divMod_any (ia.below hB) (ib.below hB) hn L hL hm).mono ?_
  rintro e w2 ⟨u, v, rfl, iu, iv, b2⟩
  obtain ⟨ao3, k3, cap3, rfl⟩ := iu.slice
  obtain ⟨ao4, k4, cap4, rfl⟩ := iv.slice
  generalize m / n = q at *
  generalize m % n = r at *
  replace hB := nextB hB b2
  replace kc := kc.below b2
  replace kd := kd.below b2
  clear ka kb
  have c1 := kc.cell
  have f1 := kc.free
  have c2 := kd.cell
  have f2 := kd.free
  have kd2 := kd.setOther (R := w.heap.size + 1 + 1) (.slice ao3 k3 cap3) (by omega)
  have c3 := kd2.cell
  have f3 := kd2.free
  go_wp2
  refine bodyPost_ret (v := .tuple #[.agg #[.slice ao3 k3 cap3], .agg #[.slice ao4 k4 cap4], .int .i64 (0 : Nat)]) (by simp [results, Try.results58, go_sem, c1, c2, c3]) rfl ⟨_, _, rfl, ⟨_, rfl, (iu.setBx kc NoInt.one _).setBx kd2 NoInt.one _⟩, ⟨_, rfl, (iv.setBx kc NoInt.one _).setBx kd2 NoInt.one _⟩, (hB.setCell (by simp; omega) _).setCell (by simp; omega) _⟩


end Go.Proofs.Ytppbhjhbaknidaa

/-
  The contracts of the program's fractions: den, lowest, within, NewFrac. Condition: numbers of at most 2^28 bits.
-/
set_option linter.unusedVariables false
set_option linter.unusedSimpArgs false
namespace Go.Proofs.Ytppbhjhbaknidaa
open Go.RowKit

/-- A fraction n by d: the denominator is kept less 1. -/
def IsF (w : World) (v : Value) (n d : Nat) : Prop := ∃ a b, v = .agg #[a, b] ∧ IsN w a n ∧ IsN w b (d - 1) ∧ 0 < d
theorem IsF.below {w w' : World} {v : Value} {n d : Nat} (h : IsF w v n d) (hb : Below w.heap.size w w') : IsF w' v n d :=
  let ⟨a, b, h1, h2, h3, h4⟩ := h
  ⟨a, b, h1, h2.below hb, h3.below hb, h4⟩
theorem IsF.zero (w : World) : IsF w (.agg #[.slice none 0 0, .slice none 0 0]) 0 1 := ⟨_, _, rfl, IsN.zero w, IsN.zero w, by omega⟩
theorem IsF.slice {w : World} {v : Value} {n d : Nat} (h : IsF w v n d) : ∃ ao k cap ao2 k2 cap2, v = .agg #[.slice ao k cap, .slice ao2 k2 cap2] ∧ IsN w (.slice ao k cap) n ∧ IsN w (.slice ao2 k2 cap2) (d - 1) ∧ 0 < d := by
  obtain ⟨a, b, rfl, ha, hb, h⟩ := h
  obtain ⟨ao, k, cap, rfl⟩ := ha.slice
  obtain ⟨ao2, k2, cap2, rfl⟩ := hb.slice
  exact ⟨ao, k, cap, ao2, k2, cap2, rfl, ha, hb, h⟩

/-- A box of a fraction. -/
structure Fx (w : World) (R : Nat) (s t : Value) : Prop where
  blk : Blk w R #[s, t] 50
  cell0 : w.cell? ⟨R, 0, none⟩ = some s
  cell1 : w.cell? ⟨R, 1, none⟩ = some t
  free0 : w.frozen? ⟨R, 0, none⟩ = false
  free1 : w.frozen? ⟨R, 1, none⟩ = false
theorem Blk.fx {w : World} {R : Nat} {s t : Value} (h : Blk w R #[s, t] 50) : Fx w R s t := ⟨h, (h.cell 0).trans rfl, (h.cell 1).trans rfl, h.frozen 0, h.frozen 1⟩
theorem Fx.below {w w' : World} {R : Nat} {s t : Value} (h : Fx w R s t) (hb : Below w.heap.size w w') : Fx w' R s t := (h.blk.below hb).fx
theorem Fx.lt {w : World} {R : Nat} {s t : Value} (h : Fx w R s t) : R < w.heap.size := h.blk.lt
theorem prof (w : World) (s t : Value) : Below w.heap.size w (w.alloc (.cells #[s, t] 50)) ∧ Fx (w.alloc (.cells #[s, t] 50)) w.heap.size s t :=
  ⟨(Below.refl _ _).alloc (Nat.le_refl _) _, (Blk.new _ _ _).fx⟩

set_option maxHeartbeats 400000 in
theorem den_any {w : World} {f : Value} {n d : Nat} (hf : IsF w f n d) (L : Nat) (hL : L ≤ 1073741824) (hd : d < P2 L) :
    Calls Try.prog 109 #[f] w (RetN w d) := by
  obtain ⟨ao, k, cap, ao2, k2, cap2, rfl, ia, ib, h0⟩ := hf.slice
  obtain ⟨hB, kf⟩ := prof w (.slice ao k cap) (.slice ao2 k2 cap2)
  have ib1 := ib.below hB
  have hp : P2 L < P2 (L + 1) := by have := P2_succ L; have := P2_pos L; omega
  have hd1 : d - 1 < P2 (L + 1) := by omega
  have h1 : 1 < P2 (L + 1) := by have := P2_mono (show 1 ≤ L + 1 by omega); have e : P2 1 = 2 := rfl; omega
  have HE := Lib.hid (show d - 1 + 1 = d by omega)
  clear hp
  obtain ⟨wo, hwo⟩ : ∃ wo : World, wo = w.alloc (.cells #[.slice ao k cap, .slice ao2 k2 cap2] 50) := ⟨_, rfl⟩
  go_enter Try.func109, Try.ntmps109
  go_wp2_with fail
  rw [← hwo] at hB kf ib1 ⊢
  clear hwo
  have c0 := kf.cell1
  have hlt := kf.lt
  go_region_held3 (fun w' => w'.cell? ⟨w.heap.size, 1, none⟩ = some (.slice ao2 k2 cap2) ∧ Below wo.heap.size wo w')
    (first
      | exact ⟨c0, (Below.refl _ _).drew⟩
      | (go_split_ands; exact ⟨((nextB (by assumption) b1).cell (p := ⟨w.heap.size, 1, none⟩) hlt).trans c0, nextB (by assumption) b1⟩)
      | (go_split_ands; exact ⟨((nextB (by assumption) b2).cell (p := ⟨w.heap.size, 1, none⟩) hlt).trans c0, nextB (by assumption) b2⟩))
    (first
      | (go_at_call 101; refine (words_any 1 _ (by omega) (by omega)).mono ?_; rintro e w1 ⟨v1, rfl, i1, b1⟩)
      | (go_at_call 99; go_split_ands; refine (add_any (ib1.below (by assumption)) i1 (L + 1) (by omega) hd1 h1).mono ?_; rintro e w2 ⟨v2, rfl, i2, b2⟩))
  rw [show (1 : Int).toNat = 1 from rfl, HE.out] at i2
  go_wp2
  go_ret
  exact ⟨_, rfl, i2, hB.trans ((nextB (nextB (below_drew0 _ 1) b1) b2).mono hB.size)⟩

theorem IsF.of {w : World} {a b : Value} {n d : Nat} (ha : IsN w a n) (hb : IsN w b (d - 1)) (hd : 0 < d) : IsF w (.agg #[a, b]) n d := ⟨a, b, rfl, ha, hb, hd⟩

/-- A fraction alone. -/
def RetF (w : World) (n d : Nat) (e : Ending) (w' : World) : Prop := ∃ v, e = .returned v ∧ IsF w' v n d ∧ Below w.heap.size w w'

theorem gcd_div_pos {m n : Nat} (hn : 0 < n) : 0 < n / Nat.gcd m n := Nat.div_pos (Nat.le_of_dvd hn (Nat.gcd_dvd_right m n)) (Nat.gcd_pos_of_pos_right m hn)
theorem cmpI_ne {m n : Nat} (h : m ≠ n) : (cmpI m n == 0) = false := by
  unfold cmpI
  by_cases h1 : m < n
  · rw [if_pos h1]; rfl
  · rw [if_neg h1, if_pos (by omega)]; rfl
theorem cmpI_self (m : Nat) : cmpI m m = 0 := by simp [cmpI]
theorem IsN.setF {w : World} {s a b : Value} {n R : Nat} (h : IsN w s n) (hb : Fx w R a b) (hn : NoInt #[a, b]) (i : Nat) (v : Value) : IsN (w.setCell ⟨R, i, none⟩ v) s n := h.setBlk hb.blk hn i v
theorem Fx.set0 {w : World} {R : Nat} {a b : Value} (h : Fx w R a b) (v : Value) : Fx (w.setCell ⟨R, 0, none⟩ v) R v b := (show Blk (w.setCell ⟨R, 0, none⟩ v) R #[v, b] 50 from h.blk.set 0 v).fx

set_option maxHeartbeats 1000000 in
theorem lowest_any {w : World} {va vb : Value} {m n : Nat} (ha : IsN w va m) (hb : IsN w vb n) (hn0 : 0 < n) (L : Nat) (hL : L ≤ 4294967296) (hm : m < P2 L) (hn : n < P2 L) :
    Calls Try.prog 108 #[va, vb] w (RetF w (m / Nat.gcd m n) (n / Nat.gcd m n)) := by
  obtain ⟨hB, kf⟩ := prof w (.slice none 0 0) (.slice none 0 0)
  have hg0 : 0 < Nat.gcd m n := Nat.gcd_pos_of_pos_right m hn0
  have hq := gcd_div_pos (m := m) hn0
  have hqn : n / Nat.gcd m n < P2 L := Nat.lt_of_le_of_lt (Nat.div_le_self _ _) hn
  have h1m : Nat.gcd m n = 1 → m / Nat.gcd m n = m ∧ n / Nat.gcd m n = n := fun h => by rw [h, Nat.div_one, Nat.div_one]; exact ⟨rfl, rfl⟩
  have ia := ha.below hB
  have ib := hb.below hB
  have HQ := Lib.hid h1m
  clear h1m
  obtain ⟨wo, hwo⟩ : ∃ wo : World, wo = w.alloc (.cells #[.slice none 0 0, .slice none 0 0] 50) := ⟨_, rfl⟩
  go_enter Try.func108, Try.ntmps108
  go_wp2_with fail
  rw [← hwo] at hB kf ia ib ⊢
  clear hwo
  refine (gcd_any ia ib L hL hm hn).mono ?_
  rintro e w1 ⟨vg, rfl, ig, b1⟩
  generalize hgg : Nat.gcd m n = g at *
  have HG := Lib.hid hgg
  clear hgg
  replace ia := ia.below b1
  replace ib := ib.below b1
  replace kf := kf.below b1
  replace hB := nextB hB b1
  clear b1
  go_wp2_with fail
  refine (words_any 1 _ (by omega) (by omega)).mono ?_
  rintro e w2 ⟨v1, rfl, i1, b2⟩
  rw [show (1 : Int).toNat = 1 from rfl] at i1
  replace ia := ia.below b2
  replace ib := ib.below b2
  replace ig := ig.below b2
  replace kf := kf.below b2
  replace hB := nextB hB b2
  clear b2
  go_wp2_with fail
  refine (cmp_any ig i1).mono ?_
  rintro e w3 ⟨rfl, b3⟩
  replace ia := ia.below b3
  replace ib := ib.below b3
  replace ig := ig.below b3
  replace kf := kf.below b3
  replace hB := nextB hB b3
  clear b3 i1
  by_cases h1 : g = 1
  · obtain ⟨e1, e2⟩ := HQ.out h1
    have E1 := Lib.hid e1
    have E2 := Lib.hid e2
    rw [e2] at hqn hq
    rw [h1, cmpI_self]
    clear e1 e2 h1 HG HQ
    go_wp2_with fail
    refine (words_any 1 _ (by omega) (by omega)).mono ?_
    rintro e w4 ⟨v1, rfl, i1, b4⟩
    rw [show (1 : Int).toNat = 1 from rfl] at i1
    replace ia := ia.below b4
    replace ib := ib.below b4
    replace kf := kf.below b4
    replace hB := nextB hB b4
    clear b4
    go_wp2_with fail
    refine (sub_any ib i1 L (by omega) hn (by omega)).mono ?_
    rintro e w5 ⟨v5, rfl, i5, b5⟩
    replace ia := ia.below b5
    replace kf := kf.below b5
    replace hB := nextB hB b5
    clear b5
    obtain ⟨ao, k, cap, rfl⟩ := ia.slice
    obtain ⟨ao2, k2, cap2, rfl⟩ := i5.slice
    have c0 := kf.cell0
    have c1 := kf.cell1
    have f0 := kf.free0
    have f1 := kf.free1
    have kg := kf.set0 (.slice ao k cap)
    have d1 := kg.cell1
    have g1 := kg.free1
    have d0 := kg.cell0
    go_wp2
    refine bodyPost_ret (v := .agg #[.slice ao k cap, .slice ao2 k2 cap2]) (by simp [results, Try.results108, go_sem, c0, c1, d0, d1]) rfl ⟨_, rfl, by rw [E1.out, E2.out]; exact IsF.of ((ia.setF kf NoInt.two 0 _).setF kg NoInt.two 1 _) ((i5.setF kf NoInt.two 0 _).setF kg NoInt.two 1 _) hq, (hB.setCell (Nat.le_refl _) _).setCell (Nat.le_refl _) _⟩
  · have hne := cmpI_ne h1
    generalize cmpI g 1 = z at hne ⊢
    clear h1 HG HQ
    go_wp2_with fail
    refine (divMod_any ia ig hg0 L hL hm).mono ?_
    rintro e w4 ⟨va2, vr, rfl, ia2, -, b4⟩
    replace ib := ib.below b4
    replace ig := ig.below b4
    replace kf := kf.below b4
    replace hB := nextB hB b4
    clear b4 ia
    go_wp2_with fail
    refine (divMod_any ib ig hg0 L hL hn).mono ?_
    rintro e w5 ⟨vb2, vr2, rfl, ib2, -, b5⟩
    replace ia2 := ia2.below b5
    replace kf := kf.below b5
    replace hB := nextB hB b5
    clear b5 ib ig
    go_wp2_with fail
    refine (words_any 1 _ (by omega) (by omega)).mono ?_
    rintro e w4 ⟨v1, rfl, i1, b4⟩
    rw [show (1 : Int).toNat = 1 from rfl] at i1
    replace ia2 := ia2.below b4
    replace ib2 := ib2.below b4
    replace kf := kf.below b4
    replace hB := nextB hB b4
    clear b4
    go_wp2_with fail
    refine (sub_any ib2 i1 L (by omega) hqn (by omega)).mono ?_
    rintro e w5 ⟨v5, rfl, i5, b5⟩
    replace ia2 := ia2.below b5
    replace kf := kf.below b5
    replace hB := nextB hB b5
    clear b5
    obtain ⟨ao, k, cap, rfl⟩ := ia2.slice
    obtain ⟨ao2, k2, cap2, rfl⟩ := i5.slice
    have c0 := kf.cell0
    have c1 := kf.cell1
    have f0 := kf.free0
    have f1 := kf.free1
    have kg := kf.set0 (.slice ao k cap)
    have d1 := kg.cell1
    have g1 := kg.free1
    have d0 := kg.cell0
    go_wp2
    refine bodyPost_ret (v := .agg #[.slice ao k cap, .slice ao2 k2 cap2]) (by simp [results, Try.results108, go_sem, c0, c1, d0, d1]) rfl ⟨_, rfl, IsF.of ((ia2.setF kf NoInt.two 0 _).setF kg NoInt.two 1 _) ((i5.setF kf NoInt.two 0 _).setF kg NoInt.two 1 _) hq, (hB.setCell (Nat.le_refl _) _).setCell (Nat.le_refl _) _⟩


/-- A fraction and the error code er (0 where there is none; then the fraction is n by d, else 0). -/
def RetFE (w : World) (n d er : Nat) (e : Ending) (w' : World) : Prop := ∃ v, e = .returned (.tuple #[v, .int .i64 er]) ∧ IsF w' v (if er = 0 then n else 0) (if er = 0 then d else 1) ∧ Below w.heap.size w w'

set_option maxHeartbeats 400000 in
theorem NewFrac_zero {w : World} {a b : Value} {m : Nat} (ha : IsNat w a m) (hb : IsNat w b 0) :
    Calls Try.prog 46 #[a, b] w (RetFE w 0 0 11) := by
  obtain ⟨ao, k, cap, rfl, ia⟩ := ha.slice
  obtain ⟨ao2, k2, cap2, rfl, ib, hk, -⟩ := hb.len
  obtain rfl := hk.2 rfl
  clear ha hb hk
  obtain ⟨hB, ka, kb⟩ := pro2 w (.slice ao k cap) (.slice ao2 0 cap2)
  go_enter Try.func46, Try.ntmps46
  go_wp2
  refine bodyPost_ret (v := .tuple #[.agg #[.slice none 0 0, .slice none 0 0], .int .i64 (11 : Nat)]) (by simp [results, Try.results46, go_sem]) rfl ⟨_, rfl, IsF.zero _, hB.alloc (by simp; omega) _⟩

set_option maxHeartbeats 400000 in
theorem NewFrac_any {w : World} {a b : Value} {m n : Nat} (ha : IsNat w a m) (hb : IsNat w b n) (hn0 : 0 < n) (L : Nat) (hL : L ≤ 4294967296) (hm : m < P2 L) (hn : n < P2 L) :
    Calls Try.prog 46 #[a, b] w (RetFE w (m / Nat.gcd m n) (n / Nat.gcd m n) 0) := by
  obtain ⟨ao, k, cap, rfl, ia⟩ := ha.slice
  obtain ⟨ao2, k2, cap2, rfl, ib, hk, hk2⟩ := hb.len
  have hd : ((k2 : Int) == 0) = false := by
    rw [beq_eq_false_iff_ne]; intro hc; have := hk.1 (by omega); omega
  clear ha hb hk
  obtain ⟨hB, ka, kb⟩ := pro2 w (.slice ao k cap) (.slice ao2 k2 cap2)
  have hz : ((w.alloc (.cells #[.slice ao k cap] 25)).alloc (.cells #[.slice ao2 k2 cap2] 25)).heap.size = w.heap.size + 1 + 1 := by simp
  obtain ⟨hC, kf⟩ := prof ((w.alloc (.cells #[.slice ao k cap] 25)).alloc (.cells #[.slice ao2 k2 cap2] 25)) (.slice none 0 0) (.slice none 0 0)
  rw [hz] at kf
  replace hB := nextB hB hC
  clear hC hz ka kb
  go_enter Try.func46, Try.ntmps46
  go_wp2_with fail
  refine (lowest_any (ia.below hB) (ib.below hB) hn0 L hL hm hn).mono ?_
  rintro e w1 ⟨v, rfl, iv, b1⟩
  generalize m / Nat.gcd m n = p at *
  generalize n / Nat.gcd m n = q at *
  obtain ⟨ao3, k3, cap3, ao4, k4, cap4, rfl, i3, i4, hq⟩ := iv.slice
  replace hB := nextB hB b1
  replace kf := kf.below b1
  have c0 := kf.cell0
  have c1 := kf.cell1
  have f0 := kf.free0
  have f1 := kf.free1
  have kg := kf.set0 (.slice ao3 k3 cap3)
  have d1 := kg.cell1
  have g1 := kg.free1
  have d0 := kg.cell0
  go_wp2
  refine bodyPost_ret (v := .tuple #[.agg #[.slice ao3 k3 cap3, .slice ao4 k4 cap4], .int .i64 (0 : Nat)]) (by simp [results, Try.results46, go_sem, c0, c1, d0, d1]) rfl ⟨_, rfl, IsF.of ((i3.setF kf NoInt.two 0 _).setF kg NoInt.two 1 _) ((i4.setF kf NoInt.two 0 _).setF kg NoInt.two 1 _) hq, (hB.setCell (by simp; omega) _).setCell (by simp; omega) _⟩

theorem txt_size {n L : Nat} (h : n < P2 L) : (txt n).size ≤ L + 1 := by
  have e : (txt n).size = (decs n).length := by simp [txt, bstr, ByteArray.size]
  rw [e]
  unfold decs
  split
  · simp
  · rw [List.length_reverse]; have := rdec_len h; omega

/-- The text of a fraction. -/
def ftxt (n d : Nat) : ByteArray := if d = 1 then txt n else txt n ++ (⟨#[47]⟩ ++ txt d)

set_option maxHeartbeats 1000000 in
theorem FString_any {w : World} {f : Value} {n d : Nat} (hf : IsF w f n d) (L : Nat) (hL : L ≤ 1073741824) (hn : n < P2 L) (hd : d < P2 L) :
    Calls Try.prog 47 #[f] w (RetS w (ftxt n d)) := by
  obtain ⟨ao, k, cap, ao2, k2, cap2, rfl, ia, ib, h0⟩ := hf.slice
  obtain ⟨hB, kf⟩ := prof w (.slice ao k cap) (.slice ao2 k2 cap2)
  have hk : k2 = 0 ↔ d = 1 := by
    obtain ⟨ao', k', cap', hv, hk, -⟩ := ib.len
    cases hv
    omega
  replace ia := ia.below hB
  replace hf := hf.below hB
  clear ib
  go_enter Try.func47, Try.ntmps47
  go_wp2_with fail
  obtain ⟨wo, hwo⟩ : ∃ wo : World, wo = w.alloc (.cells #[.slice ao k cap, .slice ao2 k2 cap2] 50) := ⟨_, rfl⟩
  rw [← hwo] at hB kf ia hf ⊢
  clear hwo
  refine (String_any ⟨_, rfl, ia⟩ L hL hn).mono ?_
  rintro e w1 ⟨rfl, b1⟩
  replace hB := nextB hB b1
  replace kf := kf.below b1
  replace hf := hf.below b1
  have c0 := kf.cell0
  have c1 := kf.cell1
  by_cases hd1 : d = 1
  · have hk0 := hk.2 hd1
    subst hk0
    have HT := Lib.hid (show ftxt n d = txt n by unfold ftxt; rw [if_pos hd1])
    clear hk hd1
    go_wp2
    go_ret
    exact ⟨by rw [HT.out]; rfl, hB⟩
  · have hk0 : 0 < k2 := Nat.pos_of_ne_zero fun h => hd1 (hk.1 h)
    have HT := Lib.hid (show ftxt n d = txt n ++ (⟨#[47]⟩ ++ txt d) by unfold ftxt; rw [if_neg hd1])
    clear hk hd1
    go_wp2_with fail
    refine (den_any hf L hL hd).mono ?_
    rintro e w2 ⟨v2, rfl, i2, b2⟩
    obtain ⟨ao5, k5, cap5, rfl⟩ := i2.slice
    replace hB := nextB hB b2
    go_wp2_with fail
    refine (String_any ⟨_, rfl, i2⟩ L hL hd).mono ?_
    rintro e w3 ⟨rfl, b3⟩
    replace hB := nextB hB b3
    have z1 := txt_size hn
    have z2 := txt_size hd
    go_wp2
    go_ret
    exact ⟨by rw [HT.out]; rfl, hB⟩

end Go.Proofs.Ytppbhjhbaknidaa

/-
  The contracts of the statements' helpers: is, told, made, two, fit. Condition: numbers of at most 2^29 bits.
-/
set_option linter.unusedVariables false
set_option linter.unusedSimpArgs false
namespace Go.Proofs.Ytppbhjhbaknidaa
open Go.RowKit

set_option maxHeartbeats 1000000 in
theorem is_any {w : World} {x a : Value} {n : Nat} (hx : IsNat w x n) (ha : IsR w a n) (L : Nat) (hL : L ≤ 1073741824) (hn : n < P2 L) :
    Calls Try.prog 41 #[x, a] w (RetB w true) := by
  obtain ⟨ao, k, cap, rfl, ix⟩ := hx.slice
  obtain ⟨ao2, k2, cap2, rfl, -, -⟩ := ha.slice
  clear hx
  obtain ⟨hB, kx⟩ := pro1 w (.slice ao k cap)
  go_enter Try.func41, Try.ntmps41
  go_wp2_with fail
  refine (String_any ⟨_, rfl, ix.below hB⟩ L hL hn).mono ?_
  rintro e w1 ⟨rfl, b1⟩
  replace hB := nextB hB b1
  go_wp2_with fail
  refine (textR_any (ha.below hB) L hL hn).mono ?_
  rintro e w2 ⟨rfl, b2⟩
  replace hB := nextB hB b2
  go_wp2
  go_ret
  exact ⟨by simp, hB⟩

set_option maxHeartbeats 1000000 in
theorem told_err {w : World} {x a : Value} {er : Nat} (hx : IsNat w x 0) (he : er ≠ 0) (he2 : er < 1000) (ha : ∃ ao k cap, a = .slice ao k cap) :
    Calls Try.prog 34 #[x, .int .i64 er, a, .int .i64 er] w (RetB w true) := by
  obtain ⟨ao, k, cap, rfl, ix⟩ := hx.slice
  obtain ⟨ao2, k2, cap2, rfl⟩ := ha
  clear hx
  obtain ⟨hB, kx⟩ := pro1 w (.slice ao k cap)
  have hd : ((er : Int) != 0) = true := by rw [bne_iff_ne]; omega
  have c1 := kx.cell
  go_enter Try.func34, Try.ntmps34
  go_wp2_with fail
  refine (String_any ⟨_, rfl, ix.below hB⟩ 1 (by omega) (by unfold P2; omega)).mono ?_
  rintro e w1 ⟨rfl, b1⟩
  replace hB := nextB hB b1
  rw [txt_zero]
  go_wp2
  go_ret
  exact ⟨by simp, hB⟩

set_option maxHeartbeats 1000000 in
theorem told_ok {w : World} {x a : Value} {n : Nat} (hx : IsNat w x n) (ha : IsR w a n) (L : Nat) (hL : L ≤ 1073741824) (hn : n < P2 L) :
    Calls Try.prog 34 #[x, .int .i64 0, a, .int .i64 0] w (RetB w true) := by
  obtain ⟨ao, k, cap, rfl, ix⟩ := hx.slice
  obtain ⟨ao2, k2, cap2, rfl, -, -⟩ := ha.slice
  clear hx
  obtain ⟨hB, kx⟩ := pro1 w (.slice ao k cap)
  go_enter Try.func34, Try.ntmps34
  go_wp2_with fail
  refine (is_any ⟨_, rfl, ix.below hB⟩ (ha.below hB) L hL hn).mono ?_
  rintro e w1 ⟨rfl, b1⟩
  replace hB := nextB hB b1
  go_wp2
  go_ret
  exact ⟨rfl, hB⟩

theorem told_any {w : World} {x a : Value} {n m er : Nat} (hx : IsNat w x (if er = 0 then n else 0)) (ha : IsR w a m) (he : er = 0 → m = n) (he2 : er < 1000) (L : Nat) (hL : L ≤ 1073741824) (hn : n < P2 L) :
    Calls Try.prog 34 #[x, .int .i64 er, a, .int .i64 er] w (RetB w true) := by
  by_cases h : er = 0
  · subst h
    have := he rfl
    subst this
    exact told_ok hx ha L hL hn
  · rw [if_neg h] at hx
    obtain ⟨ao2, k2, cap2, rfl, -, -⟩ := ha.slice
    exact told_err hx h he2 ⟨_, _, _, rfl⟩

set_option maxHeartbeats 1000000 in
theorem fit_any {w : World} {a : Value} {n : Nat} (ha : IsR w a n) :
    Calls Try.prog 39 #[a] w fun e w' => e = .returned (.int .i64 (fitE n : Nat)) ∧ w' = w := by
  have hbl : blen n ≤ 16384 ↔ n < P2 16384 := blen_le
  by_cases h : n < P2 16384
  · have hf : fitE n = 0 := if_pos h
    rw [hf]
    have hb := hbl.2 h
    clear hf hbl h
    go_enter Try.func39, Try.ntmps39
    go_wp2_with fail
    refine (bitLenR_any ha).mono ?_
    rintro e w1 ⟨rfl, rfl⟩
    go_wp2
    go_ret
    exact ⟨rfl, rfl⟩
  · have hf : fitE n = 3 := if_neg h
    rw [hf]
    have hb : ¬ blen n ≤ 16384 := fun hc => h (hbl.1 hc)
    clear hf hbl h
    go_enter Try.func39, Try.ntmps39
    go_wp2_with fail
    refine (bitLenR_any ha).mono ?_
    rintro e w1 ⟨rfl, rfl⟩
    go_wp2
    go_ret
    exact ⟨rfl, rfl⟩

/-- A number and a bool. -/
def RetNB (w : World) (n : Nat) (b : Bool) (e : Ending) (w' : World) : Prop := ∃ v, e = .returned (.tuple #[v, .bool b]) ∧ IsNat w' v n ∧ Below w.heap.size w w'

theorem txt_sz {n : Nat} (h : n < P2 16384) : (txt n).size ≤ 1099511627776 := by have := txt_size h; omega

set_option maxHeartbeats 1000000 in
theorem made_any {w : World} {a : Value} {n : Nat} (ha : IsR w a n) (hn : n < P2 16384) :
    Calls Try.prog 43 #[a] w (RetNB w n true) := by
  obtain ⟨ao2, k2, cap2, rfl, -, -⟩ := ha.slice
  obtain ⟨hB, kr⟩ := pro1 w (.slice none 0 0)
  go_enter Try.func43, Try.ntmps43
  go_wp2_with fail
  refine (textR_any (ha.below hB) 16384 (by omega) hn).mono ?_
  rintro e w1 ⟨rfl, b1⟩
  replace hB := nextB hB b1
  replace kr := kr.below b1
  go_wp2_with fail
  refine (parse_any (txt n) _ (txt_sz hn)).mono ?_
  rintro e w2 ⟨v, rfl, iv, b2⟩
  rw [parseE_txt hn, numOf_txt, if_pos rfl] at iv
  rw [parseE_txt hn]
  obtain ⟨ao, k, cap, rfl, i3⟩ := iv.slice
  replace hB := nextB hB b2
  replace kr := kr.below b2
  have hsz := hB.size
  have k2 := kr.blk.alloc (.cells #[.slice ao k cap] 25)
  have k3 := k2.bx
  have f1 := k3.free
  have c1 := k3.cell
  have i4 := i3.below ((Below.refl _ w2).alloc (Nat.le_refl _) (.cells #[.slice ao k cap] 25))
  have hC := nextB hB ((Below.refl _ w2).alloc (Nat.le_refl _) (.cells #[.slice ao k cap] 25))
  go_wp2
  refine bodyPost_ret (v := .tuple #[.agg #[.slice ao k cap], .bool true]) (by simp [results, Try.results43, go_sem, c1]) rfl ⟨_, rfl, ⟨_, rfl, i4.setBx k3 NoInt.one _⟩, hC.setCell (Nat.le_refl _) _⟩

/-- Two numbers and a bool. -/
def RetNNB (w : World) (m n : Nat) (b : Bool) (e : Ending) (w' : World) : Prop := ∃ u v, e = .returned (.tuple #[u, v, .bool b]) ∧ IsNat w' u m ∧ IsNat w' v n ∧ Below w.heap.size w w'

theorem Bx.set {w : World} {R : Nat} {s : Value} (h : Bx w R s) (v : Value) : Bx (w.setCell ⟨R, 0, none⟩ v) R v := (show Blk (w.setCell ⟨R, 0, none⟩ v) R #[v] 25 from h.blk.set 0 v).bx
theorem below_alloc (w : World) (o : Obj) : Below w.heap.size w (w.alloc o) := (Below.refl _ _).alloc (Nat.le_refl _) _

set_option maxHeartbeats 1000000 in
theorem two_any {w : World} {a b : Value} {m n : Nat} (ha : IsR w a m) (hb : IsR w b n) (hm : m < P2 16384) (hn : n < P2 16384) :
    Calls Try.prog 36 #[a, b] w (RetNNB w m n true) := by
  obtain ⟨ao2, k2, cap2, rfl, -, -⟩ := ha.slice
  obtain ⟨ao3, k3, cap3, rfl, -, -⟩ := hb.slice
  obtain ⟨hB, kr, ks⟩ := pro2 w (.slice none 0 0) (.slice none 0 0)
  go_enter Try.func36, Try.ntmps36
  go_wp2_with fail
  refine (made_any (ha.below hB) hm).mono ?_
  rintro e w1 ⟨v1, rfl, iv, b1⟩
  replace hB := nextB hB b1
  replace kr := kr.below b1
  replace ks := ks.below b1
  obtain ⟨ao, k, cap, rfl, i1⟩ := iv.slice
  clear iv b1
  have b2 := below_alloc w1 (.cells #[.slice ao k cap] 25)
  have kx := (Blk.new w1 #[.slice ao k cap] 25).bx
  obtain ⟨R1, hR1⟩ : ∃ R, R = w1.heap.size := ⟨_, rfl⟩
  have hBR : w.heap.size + 1 < R1 := by rw [hR1]; exact ks.lt
  go_wp2_with fail
  obtain ⟨w2, hw2⟩ : ∃ w2 : World, w2 = w1.alloc (.cells #[.slice ao k cap] 25) := ⟨_, rfl⟩
  rw [← hw2] at b2 kx ⊢
  rw [← hR1] at kx ⊢
  clear hw2 hR1
  replace hB := nextB hB b2
  replace kr := kr.below b2
  replace ks := ks.below b2
  replace i1 := i1.below b2
  clear b2
  refine (made_any (hb.below hB) hn).mono ?_
  rintro e w3 ⟨v2, rfl, iv, b1⟩
  replace hB := nextB hB b1
  replace kr := kr.below b1
  replace ks := ks.below b1
  replace i1 := i1.below b1
  replace kx := kx.below b1
  obtain ⟨ao4, k4, cap4, rfl, i2⟩ := iv.slice
  clear iv b1
  have b2 := below_alloc w3 (.cells #[.slice ao4 k4 cap4] 25)
  have ky := (Blk.new w3 #[.slice ao4 k4 cap4] 25).bx
  obtain ⟨R2, hR2⟩ : ∃ R, R = w3.heap.size := ⟨_, rfl⟩
  go_wp2
  obtain ⟨w4, hw4⟩ : ∃ w4 : World, w4 = w3.alloc (.cells #[.slice ao4 k4 cap4] 25) := ⟨_, rfl⟩
  rw [← hw4] at b2 ky ⊢
  have hRR : R1 < R2 := by rw [hR2]; exact kx.lt
  rw [← hR2] at ky ⊢
  clear hw4 hR2
  replace hB := nextB hB b2
  replace kr := kr.below b2
  replace ks := ks.below b2
  replace i1 := i1.below b2
  replace i2 := i2.below b2
  replace kx := kx.below b2
  clear b2
  have c1 := kx.cell
  have c2 := ky.cell
  have f1 := kr.free
  have f2 := ks.free
  have c3 := kr.cell
  have c4 := ks.cell
  have ks2 := ks.setOther (R := w.heap.size) (.slice ao k cap) (by omega)
  have c5 : (w4.setCell ⟨w.heap.size, 0, none⟩ (.slice ao k cap)).drew.cell? ⟨w.heap.size + 1, 0, none⟩ = _ := ks2.cell
  have f5 : (w4.setCell ⟨w.heap.size, 0, none⟩ (.slice ao k cap)).drew.frozen? ⟨w.heap.size + 1, 0, none⟩ = _ := ks2.free
  have kr2 := (kr.set (.slice ao k cap)).setOther (R := w.heap.size + 1) (.slice ao4 k4 cap4) (by omega)
  have ks3 := ks2.set (.slice ao4 k4 cap4)
  have d1 : ((w4.setCell ⟨w.heap.size, 0, none⟩ (.slice ao k cap)).setCell ⟨w.heap.size + 1, 0, none⟩ (.slice ao4 k4 cap4)).drew.cell? ⟨w.heap.size, 0, none⟩ = _ := kr2.cell
  have d2 : ((w4.setCell ⟨w.heap.size, 0, none⟩ (.slice ao k cap)).setCell ⟨w.heap.size + 1, 0, none⟩ (.slice ao4 k4 cap4)).drew.cell? ⟨w.heap.size + 1, 0, none⟩ = _ := ks3.cell
  go_region
  go_wp2
  refine bodyPost_ret (v := .tuple #[.agg #[.slice ao k cap], .agg #[.slice ao4 k4 cap4], .bool true]) (by simp [results, Try.results36, go_sem, d1, d2]) rfl ⟨_, _, rfl, ⟨_, rfl, ((i1.setBx kr NoInt.one _).setBx ks2 NoInt.one _).below (Below.refl _ _).drew⟩, ⟨_, rfl, ((i2.setBx kr NoInt.one _).setBx ks2 NoInt.one _).below (Below.refl _ _).drew⟩, ((hB.setCell (Nat.le_refl _) _).setCell (by simp) _).drew⟩

end Go.Proofs.Ytppbhjhbaknidaa

/-
  The contract of the statements' awake: it returns true. No condition.
-/
set_option linter.unusedVariables false
set_option linter.unusedSimpArgs false
namespace Go.Proofs.Ytppbhjhbaknidaa
open Go.RowKit

theorem rdec_one {d : Nat} (h0 : 0 < d) (h : d < 10) : rdec d = [48 + d] := by
  rw [rdec_pos (by omega), show d / 10 = 0 by omega, rdec_zero, show d % 10 = d by omega]
theorem txt_7 : txt 7 = ⟨#[55]⟩ := by
  unfold txt decs; rw [if_neg (by omega), rdec_one (by omega) (by omega)]; rfl
theorem txt_10 : txt 10 = ⟨#[49, 48]⟩ := by
  unfold txt decs; rw [if_neg (by omega), rdec_pos (by omega), show 10 / 10 = 1 by omega, rdec_one (by omega) (by omega)]; rfl
theorem txt_17 : txt 17 = ⟨#[49, 55]⟩ := by
  unfold txt decs; rw [if_neg (by omega), rdec_pos (by omega), show 17 / 10 = 1 by omega, rdec_one (by omega) (by omega)]; rfl
theorem P2_16384 {n : Nat} (h : n < 1073741824) : n < P2 16384 := lt_P2_mono (show n < P2 30 by unfold P2; omega) (by omega)
theorem ftxt_710 : ftxt (7 / Nat.gcd 7 10) (10 / Nat.gcd 7 10) = ⟨#[55, 47, 49, 48]⟩ := by
  have e : Nat.gcd 7 10 = 1 := by decide
  rw [e]
  unfold ftxt
  rw [if_neg (by decide), show 7 / 1 = 7 from rfl, show 10 / 1 = 10 from rfl, txt_7, txt_10]
  rfl

set_option maxHeartbeats 2000000 in
set_option maxRecDepth 100000 in
theorem awake_any (w : World) : Calls Try.prog 31 #[] w (RetB w true) := by
  have h7 : 7 < P2 16384 := P2_16384 (by omega)
  have h10 : 10 < P2 16384 := P2_16384 (by omega)
  have h17 : 7 + 10 < P2 16384 := P2_16384 (by omega)
  have H7 := Lib.hid h7
  have H10 := Lib.hid h10
  have H17 := Lib.hid h17
  clear h7 h10 h17
  go_enter Try.func31, Try.ntmps31
  go_wp2_with fail
  refine (New_any 7 (by omega)).mono ?_
  rintro e w1 ⟨v1, rfl, iv, hB⟩
  rw [if_pos rfl] at iv
  obtain ⟨ao1, k1, cap1, rfl, i1⟩ := iv.slice
  clear iv
  have b := below_alloc w1 (.cells #[.slice ao1 k1 cap1] 25)
  have kx := (Blk.new w1 #[.slice ao1 k1 cap1] 25).bx
  obtain ⟨R1, hR1⟩ : ∃ R, R = w1.heap.size := ⟨_, rfl⟩
  go_wp2_with fail
  obtain ⟨w2, hw2⟩ : ∃ w2 : World, w2 = w1.alloc (.cells #[.slice ao1 k1 cap1] 25) := ⟨_, rfl⟩
  rw [← hw2] at b kx ⊢
  rw [← hR1] at kx ⊢
  clear hw2 hR1
  replace hB := nextB hB b
  replace i1 := i1.below b
  clear b
  have hp := parse_any (txt 10) w2 (txt_sz H10.out)
  rw [parseE_txt H10.out, numOf_txt, txt_10] at hp
  refine hp.mono ?_
  clear hp
  rintro e w3 ⟨v, rfl, iv, b⟩
  rw [if_pos rfl] at iv
  obtain ⟨ao2, k2, cap2, rfl, i2⟩ := iv.slice
  clear iv
  replace hB := nextB hB b
  replace i1 := i1.below b
  replace kx := kx.below b
  clear b
  have b := below_alloc w3 (.cells #[.slice ao2 k2 cap2] 25)
  have ky := (Blk.new w3 #[.slice ao2 k2 cap2] 25).bx
  obtain ⟨R2, hR2⟩ : ∃ R, R = w3.heap.size := ⟨_, rfl⟩
  have c1 := (kx.below b).cell
  have c2 := ky.cell
  go_wp2_with fail
  obtain ⟨w4, hw4⟩ : ∃ w4 : World, w4 = w3.alloc (.cells #[.slice ao2 k2 cap2] 25) := ⟨_, rfl⟩
  rw [← hw4] at b ky ⊢
  rw [← hR2] at ky ⊢
  clear hw4 hR2 c1 c2
  replace hB := nextB hB b
  replace i1 := i1.below b
  replace i2 := i2.below b
  replace kx := kx.below b
  clear b
  refine (Add_any ⟨_, rfl, i1⟩ ⟨_, rfl, i2⟩ 16384 (by omega) H7.out H10.out).mono ?_
  have hf0 : fitE (7 + 10) = 0 := if_pos H17.out
  rw [hf0]
  rintro e w5 ⟨v, rfl, iv, b⟩
  rw [if_pos rfl] at iv
  obtain ⟨ao3, k3, cap3, rfl, i3⟩ := iv.slice
  clear iv hf0
  replace hB := nextB hB b
  replace i1 := i1.below b
  replace i2 := i2.below b
  replace kx := kx.below b
  replace ky := ky.below b
  clear b
  have b := below_alloc w5 (.cells #[.slice ao3 k3 cap3] 25)
  have kz := (Blk.new w5 #[.slice ao3 k3 cap3] 25).bx
  obtain ⟨R3, hR3⟩ : ∃ R, R = w5.heap.size := ⟨_, rfl⟩
  have c1 := (kx.below b).cell
  have c2 := (ky.below b).cell
  go_wp2_with fail
  obtain ⟨w6, hw6⟩ : ∃ w6 : World, w6 = w5.alloc (.cells #[.slice ao3 k3 cap3] 25) := ⟨_, rfl⟩
  rw [← hw6] at b kz ⊢
  rw [← hR3] at kz ⊢
  clear hw6 hR3 c1 c2
  replace hB := nextB hB b
  replace i1 := i1.below b
  replace i2 := i2.below b
  replace i3 := i3.below b
  clear b kx ky
  refine (NewFrac_any ⟨_, rfl, i1⟩ ⟨_, rfl, i2⟩ (by omega) 16384 (by omega) H7.out H10.out).mono ?_
  rintro e w7 ⟨v, rfl, iv, b⟩
  rw [if_pos rfl, if_pos rfl] at iv
  obtain ⟨ao4, k4, cap4, ao5, k5, cap5, rfl, i4, i5, h0⟩ := iv.slice
  replace hB := nextB hB b
  replace i3 := i3.below b
  replace kz := kz.below b
  clear b i1 i2
  obtain ⟨b, kf⟩ := prof w7 (.slice ao4 k4 cap4) (.slice ao5 k5 cap5)
  obtain ⟨R4, hR4⟩ : ∃ R, R = w7.heap.size := ⟨_, rfl⟩
  have c1 := (kz.below b).cell
  go_wp2_with fail
  obtain ⟨w8, hw8⟩ : ∃ w8 : World, w8 = w7.alloc (.cells #[.slice ao4 k4 cap4, .slice ao5 k5 cap5] 50) := ⟨_, rfl⟩
  rw [← hw8] at b kf ⊢
  rw [← hR4] at kf ⊢
  clear hw8 hR4 c1
  replace hB := nextB hB b
  replace i3 := i3.below b
  replace iv := iv.below b
  replace kz := kz.below b
  clear b
  refine (String_any ⟨_, rfl, i3⟩ 16384 (by omega) H17.out).mono ?_
  rintro e w9 ⟨rfl, b⟩
  rw [show 7 + 10 = 17 from rfl, txt_17]
  replace hB := nextB hB b
  replace iv := iv.below b
  replace kf := kf.below b
  clear b
  have c1 := kf.cell0
  have c2 := kf.cell1
  go_wp2_with fail
  refine (FString_any iv 16384 (by omega) (Nat.lt_of_le_of_lt (Nat.div_le_self _ _) H7.out) (Nat.lt_of_le_of_lt (Nat.div_le_self _ _) H10.out)).mono ?_
  rintro e w10 ⟨rfl, b⟩
  rw [ftxt_710]
  replace hB := nextB hB b
  go_wp2
  go_ret
  exact ⟨rfl, hB⟩

end Go.Proofs.Ytppbhjhbaknidaa

/-
  The contract of the specification's Parse. Condition: strings of at most 2^40 bytes.
-/
set_option linter.unusedVariables false
set_option linter.unusedSimpArgs false
namespace Go.Proofs.Ytppbhjhbaknidaa
open Go.RowKit

/-- A number of the specification's and the error code er (0 where there is none; then the number is n, else 0). -/
def RetRE (w : World) (n er : Nat) (e : Ending) (w' : World) : Prop := ∃ v, e = .returned (.tuple #[v, .int .i64 er]) ∧ IsR w' v (if er = 0 then n else 0) ∧ Below w.heap.size w w'

structure MulTen (xs zs : List Nat) (c0 k c : Nat) : Prop where
  len : zs.length = k
  dg : Dg 65536 zs
  car : c ≤ 10
  eq : val 65536 zs + 65536 ^ k * c = 10 * val 65536 (xs.take k) + c0
  can : zs = [] ∨ 65536 ^ (zs.length - 1) ≤ 10 * val 65536 xs + c0

theorem MulTen.zero (xs : List Nat) (c0 : Nat) (h : c0 ≤ 9) : MulTen xs [] c0 0 c0 := ⟨rfl, Dg.nil _, by omega, by simp [val], .inl rfl⟩

theorem MulTen.step {xs zs : List Nat} {c0 k c : Nat} (h : MulTen xs zs c0 k c) (ha : Can 65536 xs) (hr : k < xs.length ∨ 0 < c) :
    MulTen xs (zs ++ [(c + 10 * nth xs k) % 65536]) c0 (k + 1) ((c + 10 * nth xs k) / 65536) := by
  have h1 := ha.1.nth (by omega) k
  have h3 := h.car
  refine ⟨by simp [h.len], h.dg.snoc (Nat.mod_lt _ (by omega)), by omega, ?_, .inr ?_⟩
  · rw [val_snoc, val_take_succ, Nat.pow_succ, Nat.mul_assoc, Nat.add_assoc, h.len, ← Nat.mul_add, Nat.mod_add_div, Nat.mul_add, Nat.mul_add]
    have := h.eq
    have e : 65536 ^ k * (10 * nth xs k) = 10 * (65536 ^ k * nth xs k) := Nat.mul_left_comm ..
    omega
  · rw [List.length_append, List.length_singleton, Nat.add_sub_cancel, h.len]
    rcases hr with hr | hr
    · have g := ha.ge (by intro e; simp [e] at hr)
      have := Nat.pow_le_pow_right (n := 65536) (by omega) (show k ≤ xs.length - 1 by omega)
      omega
    · have e := h.eq
      have g1 := val_take_le 65536 xs k
      have g2 := Nat.mul_le_mul_left (65536 ^ k) (show 1 ≤ c from hr)
      omega

theorem MulTen.done {xs zs : List Nat} {c0 k : Nat} (h : MulTen xs zs c0 k 0) (hk : xs.length ≤ k) : val 65536 zs = 10 * val 65536 xs + c0 := by
  have := h.eq
  rwa [val_take_ge _ hk, Nat.mul_zero, Nat.add_zero] at this

set_option maxHeartbeats 2000000 in
set_option maxRecDepth 100000 in
theorem parseR_any (s : ByteArray) (w : World) (hs : s.size ≤ 1099511627776) :
    Calls Try.prog 33 #[.string s] w (RetRE w (numOf (byts s)) (parseE (byts s))) := by
  rw [parseE_eq]
  by_cases hn : IsNum (byts s)
  · rw [if_pos hn]
    by_cases hl : s.size ≤ 5000
    · obtain ⟨l, hl0⟩ : ∃ l, l = byts s := ⟨_, rfl⟩
      have hll : l.length = s.size := by rw [hl0, byts_len]
      have HBY : Hid (∀ k (h : k < s.size), nth l k = s[k].toNat) := Lib.hid fun k h => by rw [hl0]; exact byts_nth s h
      have HD : Hid (∀ i, i < s.size → Digit (nth l i)) := Lib.hid fun i hi => by rw [hl0]; exact hn.2.2 i (by rw [byts_len]; exact hi)
      have HX := Lib.hid (numOf_lt (l := l) (fun i hi => HD.out i (by rw [← hll]; exact hi)))
      have HN := Lib.hid (fun w0 => numeralR_any s w0 hs true ⟨fun _ => hn, fun _ => rfl⟩)
      rw [← hl0]
      have HLL := Lib.hid hll
      clear hn hl0 hll
      go_enter Try.func33, Try.ntmps33
      go_wp2_with fail
      refine (HN.out _).mono ?_
      rintro e w0 ⟨rfl, rfl⟩
      go_wp2
      go_loopw [4, 5, 6, 7, 8] (fun v i _ _ _ wr => ∃ k : Nat, k ≤ s.size ∧ i = .int .i64 k ∧ IsR wr v (numOf (l.take k)) ∧ Below w0.heap.size w0 wr) (fun _ i _ _ _ _ => s.size - (intOf i).toNat)
      case atStart => exact ⟨0, Nat.zero_le _, rfl, IsR.zero _, Below.refl _ _⟩
      case round =>
        obtain ⟨k, hk, rfl, iv, hb1⟩ := hrel
        have hsz := hb1.size
        have HA : Hid (numOf (l.take k) < P2 20000) := Lib.hid (Nat.lt_of_lt_of_le (HX.out k (by rw [HLL.out]; exact hk)) (Nat.le_trans (pow10_P2 _) (P2_mono (by omega))))
        by_cases hlt : k < s.size
        · have hbn := HBY.out k hlt
          have hdg := HD.out k hlt
          have HV : Hid (numOf (l.take (k + 1)) = 10 * numOf (l.take k) + (s[k].toNat - 48)) := Lib.hid (by
            rw [numOf_take l k (by rw [HLL.out]; exact hlt), hbn])
          rw [hbn] at hdg
          obtain ⟨d1, d2⟩ := hdg
          clear hbn
          obtain ⟨xs, hsl, hca, hval⟩ := iv
          have HVX := Lib.hid hval
          have hln := hca.len_R (L := 20000) (by rw [hval]; exact HA.out)
          clear hval
          obtain ⟨ao, n, cap, b, off, rfl, hs1⟩ := id hsl
          have E1 := Lib.hid hs1.len
          rw [E1.out] at hln
          obtain ⟨wo, hwo⟩ : ∃ wo : World, wo = wr := ⟨_, rfl⟩
          rw [← hwo] at hsl hs1 hb1 hsz ⊢
          clear hwo
          obtain ⟨dd, hdd⟩ : ∃ dd : Nat, dd = s[k].toNat - 48 := ⟨_, rfl⟩
          have hdd9 : dd ≤ 9 := by omega
          have hddI : ((s[k].toNat : Int) - 48) = (dd : Int) := by omega
          rw [← hdd] at HV
          clear hdd
          go_wp2
          go_loopw [6, 7, 8] (fun c o kk wr => ∃ (j cc : Nat) (zs : List Nat), kk = .int .i64 j ∧ c = .int .i64 cc ∧ j ≤ n + 1 ∧ (j = n + 1 → cc = 0) ∧ MulTen xs zs dd j cc ∧ Row wr wo.heap.size .i64 3 o zs ∧ Below wo.heap.size wo wr)
            (fun c _ kk _ => 20 * (n + 1 - (intOf kk).toNat) + (intOf c).toNat)
          case atStart => exact ⟨0, dd, [], rfl, rfl, by omega, by omega, MulTen.zero xs dd hdd9, Row.nil _ _ _ _, Below.refl _ _⟩
          case round =>
            obtain ⟨j, cc, zs, rfl, rfl, hj, hjc, hinv, hrow, hbel⟩ := hrel
            have hsz2 := hbel.size
            have hcar := hinv.car
            have hzl : zs.length < 1099511627776 := by rw [hinv.len]; omega
            by_cases hr : j < n ∨ 0 < cc
            · have hx := hca.1.nth (by omega) j
              have HI := Lib.hid (hinv.step hca (by rw [E1.out]; exact hr))
              have HZ := Lib.hid (fun h : n ≤ j => nth_ge (xs := xs) (i := j) (by rw [E1.out]; exact h))
              have hjle : j ≤ n := by
                by_cases h : j = n + 1
                · have := hjc h; omega
                · omega
              have A1 : Calls Try.prog 104 #[.slice ao n cap, .int .i64 j] wr _ := at_any (hsl.below hbel) j (by omega)
              have B1 := Lib.hid A1
              clear A1 hjc
              generalize hgx : nth xs j = x at *
              clear hgx
              have hr' : j < n ∨ (n ≤ j ∧ 0 < cc) := by omega
              clear hr hddI
              rcases hr' with hr | ⟨hr, hr2⟩
              all_goals
                go_wp2_with fail
                refine B1.out.mono ?_
                rintro e w1 ⟨rfl, rfl⟩
                go_wp2_with (at_builtin; go_loud (refine wpList_append_row _ rfl _ _ 29 rfl wo.heap.size 3 .i64 8 Try.underlying29 (by kernel_rfl) (by omega) _ zs _ ((cc + 10 * x) % 65536) (by rfl) hrow (by rfl) (by first | rfl | omega) hzl hsz2 ?_; intro v' w' hrow' hbel' _))
                go_roundw
                case rel => exact ⟨j + 1, (cc + 10 * x) / 65536, _, by go_num, by go_num, by omega, by intro h; have := HZ.out (by omega); omega, HI.out, hrow', hbel.trans hbel'⟩
                case measure => simp [intOf]; omega
            · have hc0 : cc = 0 := by omega
              subst hc0
              have HF := Lib.hid (hinv.done (by rw [E1.out]; omega))
              clear hddI
              go_wp2
              go_roundw
              case rel => exact ⟨k + 1, by omega, by go_num, ⟨zs, hrow.sl (by omega) hinv.dg.wf16, can_of_ge (by omega) hinv.dg (by rw [HF.out]; exact hinv.can), by rw [HF.out, HV.out, HVX.out]⟩, hb1.trans (hbel.mono hsz)⟩
              case measure => simp [intOf]; omega
        · have hk2 : k = s.size := by omega
          have HT : Hid (numOf (l.take k) = numOf l) := Lib.hid (by rw [List.take_of_length_le (by rw [HLL.out]; omega)])
          have hbl : blen (numOf (l.take k)) ≤ 16384 ↔ numOf (l.take k) < P2 16384 := blen_le
          have hbl2 : blen (numOf (l.take k)) ≤ 20000 := blen_le.2 HA.out
          by_cases hfit : numOf (l.take k) < P2 16384
          · have hb := hbl.2 hfit
            have HF : Hid (fitE (numOf l) = 0) := Lib.hid (by rw [← HT.out]; exact if_pos hfit)
            clear hbl hk2 hfit
            go_wp2_with fail
            refine (bitLenR_any iv).mono ?_
            rintro e w2 ⟨rfl, rfl⟩
            go_wp2
            go_ret2
            exact ⟨_, by rw [HF.out]; rfl, by rw [HF.out, if_pos rfl, ← HT.out]; exact iv, hb1⟩
          · have hb : ¬ blen (numOf (l.take k)) ≤ 16384 := fun h => hfit (hbl.1 h)
            have HF : Hid (fitE (numOf l) = 3) := Lib.hid (by rw [← HT.out]; exact if_neg hfit)
            clear hbl hk2 hfit
            go_wp2_with fail
            refine (bitLenR_any iv).mono ?_
            rintro e w2 ⟨rfl, rfl⟩
            go_wp2
            go_ret2
            exact ⟨_, by rw [HF.out]; rfl, by rw [HF.out, if_neg (by omega)]; exact IsR.zero _, hb1⟩
    · have HF : Hid (fitE (numOf (byts s)) = 3) := Lib.hid (fitE_big (num_ge hn (by rw [byts_len]; omega)))
      have HN := Lib.hid (fun w0 => numeralR_any s w0 hs true ⟨fun _ => hn, fun _ => rfl⟩)
      clear hn
      go_enter Try.func33, Try.ntmps33
      go_wp2_with fail
      refine (HN.out _).mono ?_
      rintro e w1 ⟨rfl, rfl⟩
      go_wp2
      go_ret2
      exact ⟨_, by rw [HF.out]; rfl, by rw [HF.out, if_neg (by omega)]; exact IsR.zero _, Below.refl _ _⟩
  · rw [if_neg hn]
    have HN := Lib.hid (fun w0 => numeralR_any s w0 hs false ⟨fun h => (by cases h), fun h => absurd h hn⟩)
    clear hn
    go_enter Try.func33, Try.ntmps33
    go_wp2_with fail
    refine (HN.out _).mono ?_
    rintro e w1 ⟨rfl, rfl⟩
    go_wp2
    go_ret2
    exact ⟨_, rfl, by rw [if_neg (by omega)]; exact IsR.zero _, Below.refl _ _⟩

end Go.Proofs.Ytppbhjhbaknidaa

/-
  What the frame of each law's proof shares: the closed facts of the program, and a slice of integers that came in. No condition.
-/
namespace Go.Proofs.Ytppbhjhbaknidaa
open Go.RowKit

theorem own : ownKnob Try.prog.godebug = none := by kernel_rfl
theorem laidOut : laidOutB Try.prog = true := by kernel_rfl

/-- A slice of integers that came in: nil, or a row of 'cap' cells, the numbers 'zs'. -/
def IsRow (k : IntKind) (w : World) (a : Option Addr) (len cap : Nat) (zs : List Int) : Prop :=
  (a = none ∧ len = 0 ∧ cap = 0 ∧ zs = []) ∨
  ∃ x, a = some x ∧ len ≤ cap ∧ cap ≤ maxLen ∧ zs.length = cap ∧ (∀ i, i < zs.length → w.cell? (x.add i) = some (.int k (zs.getD i 0))) ∧ ∀ n ∈ zs, (Lit.int k n).wf = true

theorem u16_of_wf {n : Int} (h : (Lit.int .u16 n).wf = true) : 0 ≤ n ∧ n < 65536 := by
  simp [Lit.wf, IntKind.min, IntKind.max, IntKind.bits, IntKind.signed] at h
  omega

theorem i64_of_wf {n : Int} (h : (Lit.int .i64 n).wf = true) : -9223372036854775808 ≤ n ∧ n ≤ 9223372036854775807 := by
  simp [Lit.wf, IntKind.min, IntKind.max, IntKind.bits, IntKind.signed] at h
  omega

theorem IsRow.in16 {w : World} {a : Option Addr} {len cap : Nat} {zs : List Int} (h : IsRow .u16 w a len cap zs) : In16 w (.slice a len cap) := by
  rcases h with ⟨rfl, rfl, rfl, rfl⟩ | ⟨x, rfl, h1, h2, h3, h4, h5⟩
  · exact ⟨none, 0, 0, rfl, by omega, .inl rfl⟩
  · refine ⟨some x, len, cap, rfl, by unfold maxLen at h2; omega, .inr ⟨x, rfl, fun i => (zs.getD i 0).toNat, fun i hi => ?_⟩⟩
    have hi' : i < zs.length := by omega
    have hc := h4 i hi'
    have hm : zs.getD i 0 ∈ zs := by
      rw [List.getD_eq_getElem?_getD, List.getElem?_eq_getElem hi']
      exact List.getElem_mem hi'
    have hu := u16_of_wf (h5 _ hm)
    refine ⟨?_, by show (zs.getD i 0).toNat < 65536; omega⟩
    rw [hc]
    show some (Value.int .u16 (zs.getD i 0)) = some (Value.int .u16 (((zs.getD i 0).toNat : Nat) : Int))
    rw [Int.toNat_of_nonneg hu.1]

end Go.Proofs.Ytppbhjhbaknidaa
