/-
  The long division's invariant, in plain Lean: no program. No condition.
-/
import Derived.Test.YtppbhjhbaknidaaRed
import Derived.Test.YtppbhjhbaknidaaCmp
namespace Go.Proofs.Ytppbhjhbaknidaa

theorem nth_zero_of_lt {b : Nat} (hb : 0 < b) {xs : List Nat} {k : Nat} (h : val b xs < b ^ k) (t : Nat) (ht : k ≤ t) : nth xs t = 0 := by
  by_cases hl : t < xs.length
  · rcases Nat.eq_zero_or_pos (nth xs t) with h0 | h0
    · exact h0
    · exfalso
      have e := val_at b xs t hl
      have h1 : b ^ k ≤ b ^ t := Nat.pow_le_pow_right hb ht
      have h2 : b ^ t * 1 ≤ b ^ t * (nth xs t + b * val b (xs.drop (t + 1))) := Nat.mul_le_mul_left _ (by omega)
      omega
  · exact nth_ge (by omega)

theorem val_zero_of {b : Nat} {xs : List Nat} (h : ∀ i, nth xs i = 0) : val b xs = 0 := by
  rw [← val_trim, trim_zero xs h]; rfl

theorem val_take_of_zero {b : Nat} {xs : List Nat} {k : Nat} (h : ∀ t, k ≤ t → nth xs t = 0) : val b (xs.take k) = val b xs := by
  by_cases hk : k ≤ xs.length
  · have e := val_take_drop b xs k hk
    have hz : val b (xs.drop k) = 0 := val_zero_of (fun i => by rw [nth_drop]; exact h _ (by omega))
    rw [hz, Nat.mul_zero, Nat.add_zero] at e
    exact e.symm
  · exact val_take_ge b (by omega)

theorem val_top3 {b : Nat} {xs : List Nat} {p : Nat} (h : ∀ t, p + 3 ≤ t → nth xs t = 0) :
    val b xs = val b (xs.take p) + b ^ p * ((nth xs (p + 2) * b + nth xs (p + 1)) * b + nth xs p) := by
  rw [← val_take_of_zero h, show p + 3 = p + 1 + 1 + 1 by omega, val_take_succ, val_take_succ, val_take_succ, Nat.pow_succ b (p + 1), Nat.pow_succ b p]
  have e1 : b ^ p * b * nth xs (p + 1) = b ^ p * (nth xs (p + 1) * b) := by simp only [Nat.mul_assoc, Nat.mul_comm, Nat.mul_left_comm]
  have e2 : b ^ p * b * b * nth xs (p + 1 + 1) = b ^ p * (nth xs (p + 2) * b * b) := by simp only [Nat.mul_assoc, Nat.mul_comm, Nat.mul_left_comm]
  rw [e1, e2, Nat.mul_add, Nat.add_mul, Nat.mul_add]
  omega

theorem val_top2 {b : Nat} {xs : List Nat} {p : Nat} (h : xs.length = p + 2) :
    val b xs = val b (xs.take p) + b ^ p * (nth xs (p + 1) * b + nth xs p) := by
  rw [← val_take_ge b (Nat.le_of_eq h), show p + 2 = p + 1 + 1 by omega, val_take_succ, val_take_succ, Nat.pow_succ]
  have e1 : b ^ p * b * nth xs (p + 1) = b ^ p * (nth xs (p + 1) * b) := by simp only [Nat.mul_assoc, Nat.mul_comm, Nat.mul_left_comm]
  rw [e1, Nat.mul_add]
  omega

structure DivInv (A V : Nat) (us qs : List Nat) (N L j : Nat) : Prop where
  len : us.length = N
  dg : Dg 4294967296 us
  lenq : qs.length = L - j
  dgq : Dg 4294967296 qs
  eq : val 4294967296 us + V * 4294967296 ^ j * val 4294967296 qs = A
  lt : val 4294967296 us < V * 4294967296 ^ j

/-- What the estimate needs, and what it gives, at one digit. -/
structure DivStep (us ys : List Nat) (i p : Nat) : Prop where
  pre : (nth us (i + p + 2) * 4294967296 + nth us (i + p + 1)) * 4294967296 + nth us (i + p) < (nth ys (p + 1) * 4294967296 + nth ys p + 1) * 4294967296
  top : ∀ t, i + (p + 2) < t → nth us t = 0
  h1 : val 4294967296 us < (estQ ((nth us (i + p + 2) * 4294967296 + nth us (i + p + 1)) * 4294967296 + nth us (i + p)) (nth ys (p + 1) * 4294967296 + nth ys p) + 1) * (4294967296 ^ i * val 4294967296 ys)
  h2 : (estQ ((nth us (i + p + 2) * 4294967296 + nth us (i + p + 1)) * 4294967296 + nth us (i + p)) (nth ys (p + 1) * 4294967296 + nth ys p) - 1) * (4294967296 ^ i * val 4294967296 ys) ≤ val 4294967296 us
  ql : estQ ((nth us (i + p + 2) * 4294967296 + nth us (i + p + 1)) * 4294967296 + nth us (i + p)) (nth ys (p + 1) * 4294967296 + nth ys p) < 4294967296

theorem div_core {x l V2 U3 Q P R B : Nat} (hB : 0 < B) (hl : l < P) (hV2 : B ≤ V2 + 1) (hV : V2 * P ≤ R) (hV' : R < (V2 + 1) * P) (hx1 : U3 * P ≤ x) (hx2 : x < (U3 + 1) * P)
    (hlt : x < R * B) (hQ : Q = min (U3 / V2) (B - 1)) (hV0 : 0 < V2) :
    U3 < (V2 + 1) * B ∧ x < (Q + 1) * R ∧ (Q - 1) * R ≤ x ∧ Q < B := by
  have hP : 0 < P := by omega
  have g0 : U3 < (V2 + 1) * B := by
    have h1 : U3 * P < (V2 + 1) * P * B := Nat.lt_of_le_of_lt hx1 (Nat.lt_of_lt_of_le hlt (Nat.mul_le_mul_right _ (Nat.le_of_lt hV')))
    rw [Nat.mul_right_comm] at h1
    exact Nat.lt_of_mul_lt_mul_right h1
  refine ⟨g0, ?_, ?_, by omega⟩
  · rcases Nat.lt_or_ge (U3 / V2) (B - 1) with h | h
    · have hq : Q = U3 / V2 := by omega
      have h1 : U3 < (Q + 1) * V2 := by rw [hq]; exact (Nat.div_lt_iff_lt_mul hV0).1 (Nat.lt_succ_self _)
      have h2 : (U3 + 1) * P ≤ (Q + 1) * V2 * P := Nat.mul_le_mul_right _ h1
      have h3 : (Q + 1) * (V2 * P) ≤ (Q + 1) * R := Nat.mul_le_mul_left _ hV
      rw [← Nat.mul_assoc] at h3
      omega
    · have hq : Q + 1 = B := by omega
      rw [hq, Nat.mul_comm]; exact hlt
  · rcases Nat.eq_zero_or_pos Q with h | h
    · subst h; simp
    · obtain ⟨r, hr⟩ : ∃ r, Q = r + 1 := ⟨Q - 1, by omega⟩
      rw [hr, Nat.add_sub_cancel]
      have h1 : Q * V2 ≤ U3 := by
        refine Nat.le_trans (Nat.mul_le_mul_right _ (show Q ≤ U3 / V2 by omega)) (Nat.div_mul_le_self _ _)
      have h2 : r * R ≤ r * ((V2 + 1) * P) := Nat.mul_le_mul_left _ (Nat.le_of_lt hV')
      have h3 : r * (V2 + 1) ≤ U3 := by
        rw [hr, Nat.add_mul, Nat.one_mul] at h1
        rw [Nat.mul_add, Nat.mul_one]
        omega
      have h4 : r * (V2 + 1) * P ≤ U3 * P := Nat.mul_le_mul_right _ h3
      rw [Nat.mul_assoc] at h4
      omega

theorem DivInv.est {A : Nat} {us ys qs : List Nat} {N L i p : Nat} (h : DivInv A (val 4294967296 ys) us qs N L (i + 1)) (hy : Dg 4294967296 ys) (hp : ys.length = p + 2) (hv1 : 2147483648 ≤ nth ys (p + 1)) :
    DivStep us ys i p := by
  have hVlt := val_lt hy
  rw [hp] at hVlt
  have hus : val 4294967296 us < 4294967296 ^ (i + p + 3) := by
    have h1 := h.lt
    have h2 : val 4294967296 ys * 4294967296 ^ (i + 1) ≤ 4294967296 ^ (p + 2) * 4294967296 ^ (i + 1) := Nat.mul_le_mul_right _ (Nat.le_of_lt hVlt)
    rw [← Nat.pow_add, show p + 2 + (i + 1) = i + p + 3 by omega] at h2
    omega
  have htop := nth_zero_of_lt (by omega) hus
  have e3 := val_top3 (b := 4294967296) (xs := us) (p := i + p) htop
  have e2 := val_top2 (b := 4294967296) hp
  have hl := val_lt (h.dg.take (i + p))
  have hl2 := val_lt (hy.take p)
  have hlen1 : (us.take (i + p)).length ≤ i + p := by rw [List.length_take]; omega
  have hlen2 : (ys.take p).length ≤ p := by rw [List.length_take]; omega
  have hl' := Nat.lt_of_lt_of_le hl (Nat.pow_le_pow_right (show 0 < 4294967296 by omega) hlen1)
  have hl2' := Nat.lt_of_lt_of_le hl2 (Nat.pow_le_pow_right (show 0 < 4294967296 by omega) hlen2)
  have hlt := h.lt
  rw [Nat.pow_succ, ← Nat.mul_assoc, Nat.mul_comm (val 4294967296 ys)] at hlt
  have hv0 := hy.nth (by omega) p
  rw [Nat.mul_comm (4294967296 ^ (i + p))] at e3
  rw [Nat.mul_comm (4294967296 ^ p)] at e2
  have hV2 : 4294967296 ≤ nth ys (p + 1) * 4294967296 + nth ys p + 1 := by omega
  have hV0 : 0 < nth ys (p + 1) * 4294967296 + nth ys p := by omega
  have hpp : 4294967296 ^ (i + p) = 4294967296 ^ i * 4294967296 ^ p := Nat.pow_add ..
  clear hl hl2 hlen1 hlen2 hv0 hv1 hVlt hus
  have key := div_core (x := val 4294967296 us) (l := val 4294967296 (us.take (i + p))) (V2 := nth ys (p + 1) * 4294967296 + nth ys p)
    (U3 := (nth us (i + p + 2) * 4294967296 + nth us (i + p + 1)) * 4294967296 + nth us (i + p))
    (Q := estQ ((nth us (i + p + 2) * 4294967296 + nth us (i + p + 1)) * 4294967296 + nth us (i + p)) (nth ys (p + 1) * 4294967296 + nth ys p))
    (P := 4294967296 ^ (i + p)) (R := 4294967296 ^ i * val 4294967296 ys) (B := 4294967296) (by omega) hl' hV2 ?_ ?_ ?_ ?_ hlt rfl hV0
  · exact ⟨key.1, fun t ht => htop t (by omega), key.2.1, key.2.2.1, key.2.2.2⟩
  · rw [hpp, Nat.mul_left_comm]
    refine Nat.mul_le_mul_left _ ?_
    rw [e2]; exact Nat.le_add_left _ _
  · rw [hpp, Nat.mul_left_comm]
    refine Nat.mul_lt_mul_of_pos_left ?_ (Nat.pow_pos (by omega))
    rw [e2, Nat.add_mul (nth ys (p + 1) * 4294967296 + nth ys p) 1, Nat.one_mul, Nat.add_comm]
    exact Nat.add_lt_add_left hl2' _
  · rw [e3]; exact Nat.le_add_left _ _
  · rw [e3, Nat.add_mul ((nth us (i + p + 2) * 4294967296 + nth us (i + p + 1)) * 4294967296 + nth us (i + p)) 1, Nat.one_mul, Nat.add_comm]
    exact Nat.add_lt_add_left hl' _

theorem DivInv.step {A : Nat} {us ys qs zs : List Nat} {N L i q' : Nat} (h : DivInv A (val 4294967296 ys) us qs N L (i + 1)) (hL : i < L) (r : RedPost us ys zs i q') :
    DivInv A (val 4294967296 ys) zs (q' :: qs) N L i := by
  refine ⟨by rw [r.len, h.len], r.dg, by rw [List.length_cons, h.lenq]; omega, ?_, ?_, ?_⟩
  · intro x hx
    rcases List.mem_cons.1 hx with hx | hx
    · rw [hx]; exact r.q
    · exact h.dgq x hx
  · have e := h.eq
    have e2 := r.eq
    rw [Nat.pow_succ] at e
    rw [val, Nat.mul_add]
    have e3 : val 4294967296 ys * 4294967296 ^ i * q' = q' * (4294967296 ^ i * val 4294967296 ys) := by simp only [Nat.mul_comm]
    have e4 : val 4294967296 ys * 4294967296 ^ i * (4294967296 * val 4294967296 qs) = val 4294967296 ys * (4294967296 ^ i * 4294967296) * val 4294967296 qs := by simp only [Nat.mul_assoc]
    rw [e3, e4, ← e, ← e2]
    omega
  · rw [Nat.mul_comm]; exact r.lt

theorem DivInv.done {m n s : Nat} {us qs : List Nat} {N L : Nat} (h : DivInv (m * P2 s) (n * P2 s) us qs N L 0) (hn : 0 < n) :
    val 4294967296 qs = m / n ∧ val 4294967296 us = (m % n) * P2 s := by
  have e := h.eq
  have l := h.lt
  rw [Nat.pow_zero, Nat.mul_one] at e l
  have hp : 0 < n * P2 s := Nat.mul_pos hn (P2_pos s)
  have h1 : m * P2 s / (n * P2 s) = val 4294967296 qs := by
    rw [← e, Nat.add_mul_div_left _ _ hp, Nat.div_eq_of_lt l, Nat.zero_add]
  have h2 : m * P2 s % (n * P2 s) = val 4294967296 us := by
    rw [← e, Nat.add_mul_mod_self_left, Nat.mod_eq_of_lt l]
  rw [Nat.mul_div_mul_right _ _ (P2_pos s)] at h1
  rw [Nat.mul_mod_mul_right] at h2
  exact ⟨h1.symm, h2.symm⟩

/-- A number of just k words, the top bit set. -/
theorem top_set {ys : List Nat} (h : Can 4294967296 ys) {k : Nat} (hk : 1 ≤ k) (h1 : val 4294967296 ys < P2 (32 * k)) (h2 : P2 (32 * k - 1) ≤ val 4294967296 ys) :
    ys.length = k ∧ 2147483648 ≤ nth ys (k - 1) := by
  have hl := h.len_P2 h1
  have hv := val_lt h.1
  rw [P2_32] at hv
  have hge : 32 * k - 1 < 32 * ys.length := P2_lt (Nat.lt_of_le_of_lt h2 hv)
  have hlen : ys.length = k := by omega
  refine ⟨hlen, ?_⟩
  have e := val_at 4294967296 ys (k - 1) (by omega)
  rw [show k - 1 + 1 = ys.length by omega, List.drop_of_length_le (Nat.le_refl _)] at e
  simp only [val, Nat.mul_zero, Nat.add_zero] at e
  have ht := val_lt (h.1.take (k - 1))
  rw [List.length_take, Nat.min_eq_left (by omega), P2_32] at ht
  rw [P2_32] at e
  rw [show 32 * k - 1 = 32 * (k - 1) + 31 by omega, P2_add] at h2
  rcases Nat.lt_or_ge (nth ys (k - 1)) 2147483648 with hc | hc
  · exfalso
    have e31 : P2 31 = 2147483648 := rfl
    have : P2 (32 * (k - 1)) * (nth ys (k - 1) + 1) ≤ P2 (32 * (k - 1)) * P2 31 := Nat.mul_le_mul_left _ (by omega)
    rw [Nat.mul_add, Nat.mul_one] at this
    omega
  · exact hc

end Go.Proofs.Ytppbhjhbaknidaa
