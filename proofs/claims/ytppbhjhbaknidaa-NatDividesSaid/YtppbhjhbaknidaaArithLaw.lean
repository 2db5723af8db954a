/-
  Plain arithmetic of the greatest common divisor by halving, of inverses, of powers modulo a number, of binomial coefficients. No condition.
-/
set_option linter.unusedSimpArgs false
set_option linter.unusedVariables false
namespace Go.Proofs.Ytppbhjhbaknidaa

theorem gcd_half {a b : Nat} (ha : a % 2 = 0) (hb : b % 2 = 1) : Nat.gcd (a / 2) b = Nat.gcd a b := by
  have h : Nat.Coprime 2 b := by
    unfold Nat.Coprime
    rw [Nat.gcd_rec, hb]
    rfl
  have e : a = 2 * (a / 2) := by omega
  conv => rhs; rw [e]
  exact (Nat.Coprime.gcd_mul_left_cancel (a / 2) h).symm

theorem gcd_half' {a b : Nat} (ha : a % 2 = 1) (hb : b % 2 = 0) : Nat.gcd a (b / 2) = Nat.gcd a b := by
  rw [Nat.gcd_comm, gcd_half hb ha, Nat.gcd_comm]

theorem gcd_two {a b : Nat} (ha : a % 2 = 0) (hb : b % 2 = 0) : 2 * Nat.gcd (a / 2) (b / 2) = Nat.gcd a b := by
  rw [← Nat.gcd_mul_left]
  congr 1 <;> omega

theorem gcd_subl {a b : Nat} (h : b ≤ a) : Nat.gcd (a - b) b = Nat.gcd a b := by
  obtain ⟨c, rfl⟩ := Nat.exists_eq_add_of_le h
  rw [Nat.add_sub_cancel_left, Nat.add_comm b c, Nat.gcd_add_self_left]

theorem gcd_subr {a b : Nat} (h : a ≤ b) : Nat.gcd a (b - a) = Nat.gcd a b := by
  rw [Nat.gcd_comm, gcd_subl h, Nat.gcd_comm]

/-- Congruent modulo m. -/
def Cg (m a b : Nat) : Prop := ∃ i j, a + m * i = b + m * j

theorem Cg.refl (m a : Nat) : Cg m a a := ⟨0, 0, rfl⟩
theorem Cg.symm {m a b : Nat} (h : Cg m a b) : Cg m b a := let ⟨i, j, e⟩ := h; ⟨j, i, e.symm⟩
theorem Cg.trans {m a b c : Nat} (h : Cg m a b) (g : Cg m b c) : Cg m a c := by
  obtain ⟨i, j, e⟩ := h
  obtain ⟨k, l, f⟩ := g
  refine ⟨i + k, j + l, ?_⟩
  rw [Nat.mul_add, Nat.mul_add]; omega
theorem Cg.mod {m a b : Nat} (h : Cg m a b) : a % m = b % m := by
  obtain ⟨i, j, e⟩ := h
  rw [← Nat.add_mul_mod_self_left a m i, e, Nat.add_mul_mod_self_left]
theorem Cg.of_mod (m a : Nat) : Cg m (a % m) a := ⟨a / m, 0, by rw [Nat.mul_zero, Nat.add_zero, Nat.mod_add_div]⟩
theorem Cg.of_eq {m a b : Nat} (h : a % m = b % m) : Cg m a b := (Cg.of_mod m a).symm.trans (h ▸ Cg.of_mod m b)
theorem Cg.mul {m a b : Nat} (h : Cg m a b) (c : Nat) : Cg m (c * a) (c * b) := by
  obtain ⟨i, j, e⟩ := h
  refine ⟨c * i, c * j, ?_⟩
  have := congrArg (c * ·) e
  simp only [Nat.mul_add, Nat.mul_comm, Nat.mul_left_comm, Nat.mul_assoc] at this ⊢
  exact this
theorem Cg.add {m a b : Nat} (h : Cg m a b) (c : Nat) : Cg m (c + a) (c + b) := by
  obtain ⟨i, j, e⟩ := h
  exact ⟨i, j, by omega⟩
theorem Cg.cancel {m a b c : Nat} (h : Cg m (c + a) (c + b)) : Cg m a b := by
  obtain ⟨i, j, e⟩ := h
  exact ⟨i, j, by omega⟩

/-- The loop of Inverse. -/
structure InvL (A m last r lastX x : Nat) : Prop where
  cl : Cg m (lastX * A) last
  cr : Cg m (x * A) r
  lx : lastX < m
  xm : x < m
  g : Nat.gcd last r = Nat.gcd A m
  le : last ≤ m ∧ r ≤ m

theorem InvL.start {A m : Nat} (hm : 0 < m) : InvL A m m (A % m) 0 (1 % m) := by
  refine ⟨⟨1, 0, by omega⟩, ?_, hm, Nat.mod_lt _ hm, ?_, Nat.le_refl _, Nat.le_of_lt (Nat.mod_lt _ hm)⟩
  · have h1 : Cg m (1 % m * A) (1 * A) := by
      have := (Cg.of_mod m 1).mul A
      rw [Nat.mul_comm A, Nat.mul_comm A] at this
      exact this
    rw [Nat.one_mul] at h1
    exact h1.trans (Cg.of_mod m A).symm
  · rw [Nat.gcd_comm A m, Nat.gcd_rec m A, Nat.gcd_comm]

def invNext (m lastX back : Nat) : Nat := if lastX < back then lastX + m - back else lastX - back

theorem InvL.step {A m last r lastX x : Nat} (h : InvL A m last r lastX x) (hm : 0 < m) (hr : 0 < r) :
    InvL A m r (last % r) x (invNext m lastX (last / r * x % m)) := by
  have hb := Nat.mod_lt (last / r * x) hm
  have hbc := Cg.of_mod m (last / r * x)
  have hlx := h.lx
  have hrl := Nat.mod_lt last hr
  have hle := h.le
  refine ⟨h.cr, ?_, h.xm, by unfold invNext; split <;> omega, ?_, h.le.2, by omega⟩
  · generalize last / r * x % m = back at *
    have e1 : Cg m (back * A) (last / r * r) := by
      have h1 := hbc.mul A
      have h2 := h.cr.mul (last / r)
      rw [Nat.mul_comm A back, Nat.mul_comm A, Nat.mul_assoc] at h1
      exact h1.trans h2
    have e2 : Cg m (back * A + invNext m lastX back * A) last := by
      refine Cg.trans ?_ h.cl
      rw [← Nat.add_mul]
      unfold invNext
      split
      · rw [show back + (lastX + m - back) = lastX + m by omega, Nat.add_mul]
        exact ⟨0, A, by omega⟩
      · rw [show back + (lastX - back) = lastX by omega]
        exact Cg.refl _ _
    have e3 : Cg m (back * A + invNext m lastX back * A) (back * A + last % r) := by
      refine e2.trans ?_
      have e4 := (e1.symm).add (last % r)
      have e5 := Nat.mod_add_div last r
      rw [Nat.mul_comm r] at e5
      rw [e5, Nat.add_comm (last % r) (back * A)] at e4
      exact e4
    exact e3.cancel
  · rw [← h.g, Nat.gcd_comm last r, Nat.gcd_rec r last, Nat.gcd_comm]

theorem InvL.done {A m last lastX x : Nat} (h : InvL A m last 0 lastX x) : last = Nat.gcd A m ∧ (last = 1 → A * lastX % m = 1 % m) := by
  have hg := h.g
  rw [Nat.gcd_zero_right] at hg
  refine ⟨hg, fun h1 => ?_⟩
  have := h.cl.mod
  rw [h1] at this
  rw [Nat.mul_comm]; exact this

/-! Powers modulo a number, by the bits of the exponent from the top. -/

theorem powmod_step {a m e i : Nat} : (a ^ (e / 2 ^ (i + 1)) % m * (a ^ (e / 2 ^ (i + 1)) % m)) % m = a ^ (2 * (e / 2 ^ (i + 1))) % m := by
  rw [← Nat.mul_mod, ← Nat.pow_add]
  congr 2
  omega

theorem pow_even {a e i : Nat} (h : e / 2 ^ i % 2 = 0) : 2 * (e / 2 ^ (i + 1)) = e / 2 ^ i := by
  rw [Nat.pow_succ, ← Nat.div_div_eq_div_mul]; omega
theorem pow_odd {e i : Nat} (h : e / 2 ^ i % 2 = 1) : 2 * (e / 2 ^ (i + 1)) + 1 = e / 2 ^ i := by
  rw [Nat.pow_succ, ← Nat.div_div_eq_div_mul]; omega

/-! Binomial coefficients. -/

/-- n over k. -/
def binom : Nat → Nat → Nat
  | _, 0 => 1
  | 0, _ + 1 => 0
  | n + 1, k + 1 => binom n k + binom n (k + 1)

theorem binom_zero (n : Nat) : binom n 0 = 1 := by cases n <;> rfl
theorem binom_succ (n k : Nat) : binom (n + 1) (k + 1) = binom n k + binom n (k + 1) := rfl
theorem binom_gt {n : Nat} : ∀ {k : Nat}, n < k → binom n k = 0 := by
  induction n with
  | zero => intro k h; match k, h with
    | k + 1, _ => rfl
  | succ n ih => intro k h; match k, h with
    | k + 1, h => rw [binom_succ, ih (by omega), ih (by omega)]
theorem binom_self (n : Nat) : binom n n = 1 := by
  induction n with
  | zero => rfl
  | succ n ih => rw [binom_succ, ih, binom_gt (by omega)]

/-- The step of the product. -/
theorem binom_step (n : Nat) : ∀ k, binom n (k + 1) * (k + 1) = binom n k * (n - k) := by
  induction n with
  | zero => intro k; simp [binom]
  | succ n ih =>
    intro k
    match k with
    | 0 =>
      have h := ih 0
      rw [binom_succ]
      simp only [binom_zero] at h ⊢
      omega
    | k + 1 =>
      have h1 := ih k
      have h2 := ih (k + 1)
      rw [binom_succ n (k + 1), binom_succ n k]
      by_cases hk : k + 1 ≤ n
      · obtain ⟨d, rfl⟩ := Nat.exists_eq_add_of_le hk
        rw [show k + 1 + d - k = d + 1 by omega] at h1
        rw [show k + 1 + d - (k + 1) = d by omega] at h2
        rw [show k + 1 + d + 1 - (k + 1) = d + 1 by omega]
        generalize binom (k + 1 + d) (k + 1) = y at *
        generalize binom (k + 1 + d) k = x at *
        generalize binom (k + 1 + d) (k + 1 + 1) = z at *
        simp only [Nat.mul_add, Nat.add_mul, Nat.mul_one] at *
        omega
      · rw [show n + 1 - (k + 1) = 0 by omega, binom_gt (show n < k + 1 by omega), binom_gt (show n < k + 1 + 1 by omega)]
        simp

theorem binom_symm {n : Nat} : ∀ {k : Nat}, k ≤ n → binom n (n - k) = binom n k := by
  induction n with
  | zero => intro k h; rw [show k = 0 by omega]
  | succ n ih =>
    intro k h
    match k with
    | 0 => rw [Nat.sub_zero, binom_self, binom_zero]
    | k + 1 =>
      by_cases hk : k = n
      · subst hk; rw [Nat.sub_self, binom_zero, binom_self]
      · have h1 := ih (k := k) (by omega)
        have h2 := ih (k := k + 1) (by omega)
        rw [show n + 1 - (k + 1) = (n - (k + 1)) + 1 by omega, binom_succ, binom_succ, h2, show n - (k + 1) + 1 = n - k by omega, h1]
        omega

theorem binom_le (n : Nat) : ∀ k, binom n k ≤ 2 ^ n := by
  induction n with
  | zero => intro k; match k with
    | 0 => exact Nat.le_refl _
    | k + 1 => exact Nat.zero_le _
  | succ n ih =>
    intro k
    match k with
    | 0 => rw [binom_zero]; exact Nat.one_le_two_pow
    | k + 1 =>
      have h1 := ih k
      have h2 := ih (k + 1)
      rw [binom_succ, Nat.pow_succ]
      omega

theorem binom_div (n k : Nat) : binom n k * (n - k) / (k + 1) = binom n (k + 1) := by
  rw [← binom_step, Nat.mul_div_cancel _ (Nat.succ_pos k)]

/-- The coefficient that the program computes. -/
theorem binom_min {n k : Nat} (h : k ≤ n) : binom n (min k (n - k)) = binom n k := by
  by_cases h1 : k ≤ n - k
  · rw [Nat.min_eq_left h1]
  · rw [Nat.min_eq_right (by omega), binom_symm h]

end Go.Proofs.Ytppbhjhbaknidaa
