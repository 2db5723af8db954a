/-
  Numbers as lists of digits to a base, the lowest digit first: plain Lean, no program. No condition.
-/
import Derived.Test.YtppbhjhbaknidaaBase
namespace Go.Proofs.Ytppbhjhbaknidaa

/-- The number of a list of digits. -/
def val (b : Nat) : List Nat → Nat
  | [] => 0
  | d :: ds => d + b * val b ds

def Dg (b : Nat) (xs : List Nat) : Prop := ∀ x ∈ xs, x < b
def Can (b : Nat) (xs : List Nat) : Prop := Dg b xs ∧ trim xs = xs

theorem val_append (b : Nat) (xs ys : List Nat) : val b (xs ++ ys) = val b xs + b ^ xs.length * val b ys := by
  induction xs with
  | nil => simp [val]
  | cons x xs ih =>
    rw [List.cons_append, val, ih, val, List.length_cons, Nat.pow_succ, Nat.mul_add, Nat.mul_comm (b ^ xs.length) b, Nat.mul_assoc]
    omega

theorem val_snoc (b : Nat) (xs : List Nat) (d : Nat) : val b (xs ++ [d]) = val b xs + b ^ xs.length * d := by
  rw [val_append]; simp [val]

theorem val_zeros (b n : Nat) : val b (List.replicate n 0) = 0 := by
  induction n with
  | zero => rfl
  | succ n ih => rw [List.replicate_succ, val, ih]; omega

theorem val_take_ge (b : Nat) {xs : List Nat} {k : Nat} (h : xs.length ≤ k) : val b (xs.take k) = val b xs := by
  rw [List.take_of_length_le h]

theorem val_take_succ (b : Nat) (xs : List Nat) (k : Nat) : val b (xs.take (k + 1)) = val b (xs.take k) + b ^ k * nth xs k := by
  by_cases h : k < xs.length
  · rw [List.take_succ_eq_append_getElem h, val_snoc, List.length_take, nth_lt h, Nat.min_eq_left (by omega)]
  · rw [val_take_ge b (by omega), val_take_ge b (by omega), nth_ge (by omega)]; omega

theorem val_take_drop (b : Nat) (xs : List Nat) (k : Nat) (h : k ≤ xs.length) : val b xs = val b (xs.take k) + b ^ k * val b (xs.drop k) := by
  have := val_append b (xs.take k) (xs.drop k)
  rw [List.take_append_drop, List.length_take, Nat.min_eq_left h] at this
  exact this

theorem val_set (b : Nat) (xs : List Nat) : ∀ (i d : Nat), i < xs.length → val b (xs.set i d) + b ^ i * nth xs i = val b xs + b ^ i * d := by
  induction xs with
  | nil => intro i d h; simp at h
  | cons x xs ih =>
    intro i d h
    cases i with
    | zero => simp only [List.set_cons_zero, val, nth_zero, Nat.pow_zero]; omega
    | succ i =>
      have := ih i d (by simpa using h)
      simp only [List.set_cons_succ, val, nth_succ, Nat.pow_succ]
      have e : b * (val b (xs.set i d) + b ^ i * nth xs i) = b * (val b xs + b ^ i * d) := by rw [this]
      simp only [Nat.mul_add] at e
      have e1 : b ^ i * b * nth xs i = b * (b ^ i * nth xs i) := by rw [Nat.mul_comm (b ^ i) b, Nat.mul_assoc]
      have e2 : b ^ i * b * d = b * (b ^ i * d) := by rw [Nat.mul_comm (b ^ i) b, Nat.mul_assoc]
      omega

theorem val_trim (b : Nat) (xs : List Nat) : val b (trim xs) = val b xs := by
  induction xs with
  | nil => rfl
  | cons x xs ih =>
    rw [val, ← ih, trim]
    cases h : trim xs with
    | nil => by_cases hx : x = 0 <;> simp [hx, val]
    | cons y ys => simp [val]

theorem mem_trim {x : Nat} {xs : List Nat} (h : x ∈ trim xs) : x ∈ xs := by
  induction xs with
  | nil => simp [trim] at h
  | cons y xs ih =>
    rw [trim] at h
    cases ht : trim xs with
    | nil =>
      rw [ht] at h
      by_cases hy : y = 0
      · simp [hy] at h
      · simp [hy] at h; simp [h]
    | cons z zs =>
      rw [ht] at h ih
      simp only [List.mem_cons] at h ih ⊢
      rcases h with h | h
      · exact .inl h
      · exact .inr (ih h)

theorem trim_trim (xs : List Nat) : trim (trim xs) = trim xs := by
  induction xs with
  | nil => rfl
  | cons x xs ih =>
    rw [trim]
    cases h : trim xs with
    | nil => by_cases hx : x = 0 <;> simp [hx, trim]
    | cons y ys =>
      rw [h] at ih
      simp only [trim] at ih ⊢
      rw [ih]

theorem Dg.trim {b : Nat} {xs : List Nat} (h : Dg b xs) : Dg b (trim xs) := fun x hx => h x (mem_trim hx)
theorem Dg.can {b : Nat} {xs : List Nat} (h : Dg b xs) : Can b (Ytppbhjhbaknidaa.trim xs) := ⟨h.trim, trim_trim xs⟩
theorem Dg.nth {b : Nat} {xs : List Nat} (h : Dg b xs) (hb : 0 < b) (i : Nat) : nth xs i < b := by
  by_cases hi : i < xs.length
  · rw [nth_lt hi]; exact h _ (List.getElem_mem _)
  · rw [nth_ge (by omega)]; exact hb
theorem Dg.take {b : Nat} {xs : List Nat} (h : Dg b xs) (k : Nat) : Dg b (xs.take k) := fun x hx => h x (List.mem_of_mem_take hx)
theorem Dg.drop {b : Nat} {xs : List Nat} (h : Dg b xs) (k : Nat) : Dg b (xs.drop k) := fun x hx => h x (List.mem_of_mem_drop hx)
theorem Dg.set {b : Nat} {xs : List Nat} (h : Dg b xs) (i : Nat) {d : Nat} (hd : d < b) : Dg b (xs.set i d) := fun x hx => by
  rcases List.mem_or_eq_of_mem_set hx with h1 | h1
  · exact h x h1
  · rw [h1]; exact hd
theorem Dg.zeros {b : Nat} (hb : 0 < b) (n : Nat) : Dg b (List.replicate n 0) := fun x hx => by rw [(List.mem_replicate.1 hx).2]; exact hb

theorem val_lt {b : Nat} {xs : List Nat} (h : Dg b xs) : val b xs < b ^ xs.length := by
  induction xs with
  | nil => simp [val]
  | cons x xs ih =>
    have h1 := ih (fun y hy => h y (List.mem_cons_of_mem _ hy))
    have h2 := h x (List.mem_cons_self ..)
    rw [val, List.length_cons, Nat.pow_succ, Nat.mul_comm (b ^ xs.length) b]
    have h3 : b * (val b xs + 1) ≤ b * b ^ xs.length := Nat.mul_le_mul_left _ h1
    rw [Nat.mul_add] at h3
    omega

theorem trim_ne {x : Nat} {xs : List Nat} (h : trim (x :: xs) = x :: xs) : trim xs = xs := by
  rw [trim] at h
  cases ht : trim xs with
  | nil =>
    rw [ht] at h
    by_cases hx : x = 0
    · simp [hx] at h
    · simp [hx] at h; exact h.symm
  | cons y ys =>
    rw [ht] at h
    exact (List.cons.inj h).2

theorem Can.tail {b x : Nat} {xs : List Nat} (h : Can b (x :: xs)) : Can b xs := ⟨fun y hy => h.1 y (List.mem_cons_of_mem _ hy), trim_ne h.2⟩

theorem Can.nil (b : Nat) : Can b [] := ⟨fun _ hx => absurd hx List.not_mem_nil, rfl⟩

theorem Can.zero {b : Nat} {xs : List Nat} (h : Can b xs) (hb : 0 < b) (hv : val b xs = 0) : xs = [] := by
  induction xs with
  | nil => rfl
  | cons x xs ih =>
    rw [val] at hv
    have h0 : x = 0 := by omega
    have h1 : val b xs = 0 := by
      have : b * val b xs = 0 := by omega
      rcases Nat.mul_eq_zero.1 this with h | h
      · omega
      · exact h
    have := ih h.tail h1
    subst this; subst h0
    have := h.2
    simp [trim] at this

theorem Can.inj {b : Nat} (hb : 0 < b) {xs : List Nat} : ∀ {ys : List Nat}, Can b xs → Can b ys → val b xs = val b ys → xs = ys := by
  induction xs with
  | nil => intro ys _ h2 h; exact (h2.zero hb (by rw [← h]; rfl)).symm
  | cons x xs ih =>
    intro ys h1 h2 h
    cases ys with
    | nil => exact h1.zero hb (by rw [h]; rfl)
    | cons y ys =>
      have hx := h1.1 x (List.mem_cons_self ..)
      have hy := h2.1 y (List.mem_cons_self ..)
      rw [val, val] at h
      have e1 : x = y := by
        have := congrArg (· % b) h
        simpa [Nat.add_mul_mod_self_left, Nat.mod_eq_of_lt hx, Nat.mod_eq_of_lt hy] using this
      subst e1
      have e2 : val b xs = val b ys := Nat.eq_of_mul_eq_mul_left hb (by omega)
      rw [ih h1.tail h2.tail e2]

theorem Can.ge {b : Nat} {xs : List Nat} (h : Can b xs) (hn : xs ≠ []) : b ^ (xs.length - 1) ≤ val b xs := by
  induction xs with
  | nil => exact absurd rfl hn
  | cons x xs ih =>
    cases xs with
    | nil =>
      have : x ≠ 0 := fun h0 => by have := h.2; simp [trim, h0] at this
      simp [val]; omega
    | cons y ys =>
      have := ih h.tail (by simp)
      simp only [List.length_cons, Nat.add_sub_cancel] at this ⊢
      rw [val, Nat.pow_succ, Nat.mul_comm]
      have := Nat.mul_le_mul_left b this
      omega

theorem Can.len_le {b : Nat} (hb : 1 < b) {xs : List Nat} (h : Can b xs) {k : Nat} (hk : val b xs < b ^ k) : xs.length ≤ k := by
  by_cases hn : xs = []
  · simp [hn]
  · have h1 := h.ge hn
    have h2 : b ^ (xs.length - 1) < b ^ k := by omega
    have := (Nat.pow_lt_pow_iff_right hb).1 h2
    omega

/-- The digits of a number. -/
def digsF (b : Nat) : Nat → Nat → List Nat
  | 0, _ => []
  | f + 1, n => if n = 0 then [] else n % b :: digsF b f (n / b)
def digs (b n : Nat) : List Nat := digsF b (n + 1) n

theorem digsF_ok (b : Nat) (hb : 1 < b) : ∀ f n, n < f → Can b (digsF b f n) ∧ val b (digsF b f n) = n := by
  intro f
  induction f with
  | zero => intro n h; omega
  | succ f ih =>
    intro n hn
    by_cases h0 : n = 0
    · simp [digsF, h0, val, Can.nil]
    · have hlt : n / b < n := Nat.div_lt_self (by omega) hb
      have := ih (n / b) (by omega)
      rw [digsF, if_neg h0]
      refine ⟨⟨fun x hx => ?_, ?_⟩, ?_⟩
      · rcases List.mem_cons.1 hx with h | h
        · rw [h]; exact Nat.mod_lt _ (by omega)
        · exact this.1.1 x h
      · rw [trim, this.1.2]
        cases hd : digsF b f (n / b) with
        | nil =>
          rw [hd] at this
          have hz : n / b = 0 := by simpa [val] using this.2.symm
          have : n % b ≠ 0 := fun h => by
            have := Nat.div_add_mod n b
            rw [hz, h] at this
            omega
          simp [this]
        | cons y ys => rfl
      · rw [val, this.2]; have := Nat.div_add_mod n b; omega

theorem digs_can {b : Nat} (hb : 1 < b) (n : Nat) : Can b (digs b n) := (digsF_ok b hb (n + 1) n (by omega)).1
theorem digs_val {b : Nat} (hb : 1 < b) (n : Nat) : val b (digs b n) = n := (digsF_ok b hb (n + 1) n (by omega)).2
theorem Can.eq_digs {b : Nat} (hb : 1 < b) {xs : List Nat} (h : Can b xs) : xs = digs b (val b xs) :=
  Can.inj (by omega) h (digs_can hb _) (digs_val hb _).symm

end Go.Proofs.Ytppbhjhbaknidaa
