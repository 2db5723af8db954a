/-
  Numerals and numbers: plain laws. No condition.
-/
import Derived.Test.YtppbhjhbaknidaaParse
import Derived.KernelRfl
set_option linter.unusedVariables false
namespace Go.Proofs.Ytppbhjhbaknidaa

/-- The numeral's number. -/
theorem numOf_rdec (n : Nat) : numOf (rdec n).reverse = n := by
  induction n using Nat.strongRecOn with
  | ind n ih =>
    by_cases h : n = 0
    · subst h; rw [rdec_zero]; rfl
    · rw [rdec_pos h, List.reverse_cons, numOf_snoc, ih (n / 10) (by omega)]
      omega
theorem numOf_decs (n : Nat) : numOf (decs n) = n := by
  unfold decs
  split
  · next h => subst h; rfl
  · exact numOf_rdec n

theorem rdec_last {n : Nat} (h : n ≠ 0) : (rdec n).reverse.head? ≠ some 48 ∧ (rdec n).reverse ≠ [] := by
  induction n using Nat.strongRecOn with
  | ind n ih =>
    rw [rdec_pos h, List.reverse_cons]
    by_cases h1 : n / 10 = 0
    · rw [h1, rdec_zero]
      refine ⟨?_, by simp⟩
      simp
      omega
    · have ⟨h2, h3⟩ := ih (n / 10) (by omega) h1
      refine ⟨?_, by simp⟩
      rw [List.head?_append]
      cases hr : (rdec (n / 10)).reverse with
      | nil => exact absurd hr h3
      | cons x xs => rw [hr] at h2; simpa using h2

theorem nth_head (l : List Nat) (h : l ≠ []) : l.head? = some (nth l 0) := by
  cases l with
  | nil => exact absurd rfl h
  | cons x xs => rfl

theorem decs_byte (n : Nat) : ∀ x ∈ decs n, 48 ≤ x ∧ x ≤ 57 := by
  intro x hx
  unfold decs at hx
  split at hx
  · rw [List.mem_singleton] at hx; omega
  · exact rdec_byte n x (List.mem_reverse.1 hx)

theorem decs_ne (n : Nat) : decs n ≠ [] := by
  unfold decs
  split
  · simp
  · next h => exact (rdec_last h).2

theorem decs_num (n : Nat) : IsNum (decs n) := by
  refine ⟨decs_ne n, ?_, fun i hi => ?_⟩
  · unfold decs
    split
    · simp
    · next h =>
      have ⟨h1, h2⟩ := rdec_last h
      rw [nth_head _ h2] at h1
      intro hc
      exact h1 (congrArg some hc.1)
  · rw [nth_lt hi]
    exact decs_byte n _ (List.getElem_mem hi)

/-- 10 to the power k, behind a name. -/
def P10 (k : Nat) : Nat := 10 ^ k
theorem P10_succ (k : Nat) : P10 (k + 1) = P10 k * 10 := Nat.pow_succ 10 k
theorem pow_lim' : Nat.ble (P2 16384) (P10 4933) = true := by kernel_rfl
theorem pow_lim : P2 16384 ≤ P10 4933 := Nat.le_of_ble_eq_true pow_lim'

theorem rdec_pow {n : Nat} : ∀ {k : Nat}, n < P10 k → (rdec n).length ≤ k := by
  induction n using Nat.strongRecOn with
  | ind n ih =>
    intro k hk
    by_cases h : n = 0
    · subst h; rw [rdec_zero]; exact Nat.zero_le _
    · rw [rdec_pos h, List.length_cons]
      match k, hk with
      | 0, hk => unfold P10 at hk; omega
      | k + 1, hk =>
        rw [P10_succ] at hk
        have := ih (n / 10) (by omega) (k := k) (by omega)
        omega

theorem decs_len {n : Nat} (h : n < P2 16384) : (decs n).length ≤ 4933 := by
  unfold decs
  split
  · simp
  · rw [List.length_reverse]
    exact rdec_pow (Nat.lt_of_lt_of_le h pow_lim)

/-- A numeral of the limit's length and more does not fit. -/
theorem rdec_ge {n : Nat} : ∀ {k : Nat}, k < (rdec n).length → P10 k ≤ n := by
  intro k hk
  refine Nat.le_of_not_lt fun hc => ?_
  have := rdec_pow hc
  omega

theorem num_list {l : List Nat} (h : ∀ x ∈ l, Digit x) (h0 : l.head? ≠ some 48) : rdec (numOf l.reverse.reverse) = l.reverse := by
  suffices ∀ r : List Nat, (∀ x ∈ r, Digit x) → r.getLast? ≠ some 48 → rdec (numOf r.reverse) = r by
    have := this l.reverse (fun x hx => h x (List.mem_reverse.1 hx)) (by rw [List.getLast?_reverse]; exact h0)
    exact this
  intro r
  induction r with
  | nil => intro _ _; exact rdec_zero
  | cons x xs ih =>
    intro hd hl
    have hx := hd x (List.mem_cons_self ..)
    unfold Digit at hx
    rw [List.reverse_cons, numOf_snoc]
    cases xs with
    | nil =>
      simp at hl
      rw [rdec_pos (by simp [numOf]; omega)]
      simp [numOf]
      refine ⟨by omega, ?_⟩
      rw [show (x - 48) / 10 = 0 by omega, rdec_zero]
    | cons y ys =>
      have ih' := ih (fun z hz => hd z (List.mem_cons_of_mem _ hz)) (by simpa [List.getLast?_cons] using hl)
      have hne : numOf (y :: ys).reverse ≠ 0 := fun h0 => by rw [h0, rdec_zero] at ih'; cases ih'
      rw [rdec_pos (by omega), show (10 * numOf (y :: ys).reverse + (x - 48)) / 10 = numOf (y :: ys).reverse by omega, ih', show 48 + (10 * numOf (y :: ys).reverse + (x - 48)) % 10 = x by omega]

theorem IsNum.dg {l : List Nat} (h : IsNum l) : ∀ x ∈ l, Digit x := by
  intro x hx
  obtain ⟨i, hi, rfl⟩ := List.getElem_of_mem hx
  have := h.2.2 i hi
  rw [nth_lt hi] at this
  exact this

theorem decs_numOf {l : List Nat} (h : IsNum l) : decs (numOf l) = l := by
  by_cases h0 : nth l 0 = 48
  · have h1 : l.length = 1 := by
      have := h.2.1
      have := List.length_pos_iff.2 h.1
      omega
    match l, h1 with
    | [x], _ =>
      have : x = 48 := h0
      subst this
      rfl
  · have hh : l.head? ≠ some 48 := by
      rw [nth_head l h.1]; intro hc; exact h0 (Option.some.inj hc)
    have e := num_list h.dg hh
    rw [List.reverse_reverse] at e
    unfold decs
    have hne : numOf l ≠ 0 := by
      intro hc
      rw [hc, rdec_zero] at e
      exact h.1 (List.reverse_eq_nil_iff.1 e.symm)
    rw [if_neg hne, e, List.reverse_reverse]

theorem num_ge {l : List Nat} (h : IsNum l) (hl : 4933 < l.length) : P10 4933 ≤ numOf l := by
  have e := decs_numOf h
  unfold decs at e
  split at e
  · rw [← e] at hl; simp at hl
  · refine rdec_ge ?_
    rw [← List.length_reverse, e]; exact hl

theorem fitE_big {n : Nat} (h : P10 4933 ≤ n) : fitE n = 3 := by
  unfold fitE
  rw [if_neg]
  have := pow_lim
  omega

/-- The error of Parse, without the lengths. -/
theorem parseE_eq (l : List Nat) : parseE l = if IsNum l then fitE (numOf l) else 4 := by
  unfold parseE
  split
  · next h =>
    split
    · rfl
    · next hl => rw [fitE_big (num_ge h (by omega))]
  · rfl

theorem byts_txt (n : Nat) : byts (txt n) = decs n := byts_bstr fun x hx => by have := decs_byte n x hx; omega

theorem parseE_txt {n : Nat} (h : n < P2 16384) : parseE (byts (txt n)) = 0 := by
  rw [parseE_eq, byts_txt, if_pos (decs_num n), numOf_decs]
  exact if_pos h
theorem numOf_txt (n : Nat) : numOf (byts (txt n)) = n := by rw [byts_txt, numOf_decs]
theorem txt_inj {m n : Nat} (h : txt m = txt n) : m = n := by
  rw [← numOf_txt m, h, numOf_txt]

end Go.Proofs.Ytppbhjhbaknidaa
