/-
  Plain laws of comparisons of fractions, and of their texts. No condition but what each states. The walk of the law NatFracOrder. No condition.
-/
import Derived.Test.YtppbhjhbaknidaaZp
set_option linter.unusedVariables false
set_option linter.unusedSimpArgs false

/-
  Plain laws of comparisons of fractions, and of their texts. No condition but what each states.
-/
set_option linter.unusedVariables false
set_option linter.unusedSimpArgs false
namespace Go.Proofs.Ytppbhjhbaknidaa
open Go.RowKit

theorem cmpI_mul {k m n : Nat} (hk : 0 < k) : cmpI (k * m) (k * n) = cmpI m n := by
  unfold cmpI
  rcases Nat.lt_trichotomy m n with h | h | h
  · rw [if_pos h, if_pos (Nat.mul_lt_mul_of_pos_left h hk)]
  · subst h; simp
  · rw [if_neg (Nat.not_lt.2 (Nat.le_of_lt h)), if_pos h, if_neg (Nat.not_lt.2 (Nat.mul_le_mul_left k (Nat.le_of_lt h))), if_pos (Nat.mul_lt_mul_of_pos_left h hk)]
theorem cmpI_add (k m n : Nat) : cmpI (m + k) (n + k) = cmpI m n := by
  unfold cmpI
  rcases Nat.lt_trichotomy m n with h | h | h
  · rw [if_pos h, if_pos (show m + k < n + k by omega)]
  · subst h; simp
  · rw [if_neg (show ¬ m + k < n + k by omega), if_pos (show n + k < m + k by omega), if_neg (show ¬ m < n by omega), if_pos h]
theorem cmpI_swap (m n : Nat) : cmpI n m = - cmpI m n := by
  unfold cmpI
  rcases Nat.lt_trichotomy m n with h | h | h
  · simp [h, Nat.lt_asymm h]
  · subst h; simp
  · simp [h, Nat.lt_asymm h]
theorem cmpI_cases (m n : Nat) : (m < n ∧ cmpI m n = -1) ∨ (m = n ∧ cmpI m n = 0) ∨ (n < m ∧ cmpI m n = 1) := by
  unfold cmpI
  rcases Nat.lt_trichotomy m n with h | h | h
  · exact .inl ⟨h, if_pos h⟩
  · subst h; exact .inr (.inl ⟨rfl, by simp⟩)
  · exact .inr (.inr ⟨h, by rw [if_neg (by omega), if_pos h]⟩)

/-- Reduced fractions compare as the unreduced. -/
theorem cmpI_red {A B C D g h : Nat} (h1 : g ∣ A) (h2 : g ∣ B) (h3 : h ∣ C) (h4 : h ∣ D) (hg : 0 < g) (hh : 0 < h) :
    cmpI (A / g * (D / h)) (C / h * (B / g)) = cmpI (A * D) (C * B) := by
  obtain ⟨a, rfl⟩ := h1
  obtain ⟨b, rfl⟩ := h2
  obtain ⟨c, rfl⟩ := h3
  obtain ⟨d, rfl⟩ := h4
  rw [Nat.mul_div_cancel_left _ hg, Nat.mul_div_cancel_left _ hg, Nat.mul_div_cancel_left _ hh, Nat.mul_div_cancel_left _ hh]
  have e1 : g * a * (h * d) = (g * h) * (a * d) := by simp only [Nat.mul_comm, Nat.mul_left_comm, Nat.mul_assoc]
  have e2 : h * c * (g * b) = (g * h) * (c * b) := by simp only [Nat.mul_comm, Nat.mul_left_comm, Nat.mul_assoc]
  rw [e1, e2, cmpI_mul (Nat.mul_pos hg hh)]

theorem low_eq {p q p' q' : Nat} (hq : 0 < q) (hq' : 0 < q') (g1 : Nat.gcd p q = 1) (g2 : Nat.gcd p' q' = 1) (h : p * q' = p' * q) : p = p' ∧ q = q' := by
  have a : q ∣ q' := (Nat.Coprime.dvd_of_dvd_mul_left (k := q) (n := q') (m := p) (by rw [Nat.Coprime, Nat.gcd_comm]; exact g1) ⟨p', by rw [h, Nat.mul_comm]⟩)
  have b : q' ∣ q := (Nat.Coprime.dvd_of_dvd_mul_left (k := q') (n := q) (m := p') (by rw [Nat.Coprime, Nat.gcd_comm]; exact g2) ⟨p, by rw [← h, Nat.mul_comm]⟩)
  have e := Nat.dvd_antisymm a b
  subst e
  exact ⟨Nat.eq_of_mul_eq_mul_right hq h, rfl⟩

/-! Texts. -/
theorem cut_inj : ∀ {xs xs' ys ys' : List Nat}, (∀ x ∈ xs, x ≠ 47) → (∀ x ∈ xs', x ≠ 47) → xs ++ 47 :: ys = xs' ++ 47 :: ys' → xs = xs' ∧ ys = ys'
  | [], [], _, _, _, _, h => ⟨rfl, by injection h⟩
  | [], b :: t, _, _, _, h2, h => by
    injection h with h3 _
    exact absurd h3.symm (h2 b (by simp))
  | b :: t, [], _, _, h1, _, h => by
    injection h with h3 _
    exact absurd h3 (h1 b (by simp))
  | b :: t, b' :: t', ys, ys', h1, h2, h => by
    injection h with h3 h4
    obtain ⟨h5, h6⟩ := cut_inj (xs := t) (xs' := t') (fun x hx => h1 x (by simp [hx])) (fun x hx => h2 x (by simp [hx])) h4
    exact ⟨by rw [h3, h5], h6⟩
theorem byts_append (a b : ByteArray) : byts (a ++ b) = byts a ++ byts b := by
  unfold byts
  rw [show (a ++ b).data = a.data ++ b.data from by simp]
  simp
theorem decs_slash (n : Nat) : ∀ x ∈ decs n, x ≠ 47 := fun x hx => by have := decs_byte n x hx; omega
theorem byts_ftxt (n d : Nat) : byts (ftxt n d) = if d = 1 then decs n else decs n ++ 47 :: decs d := by
  unfold ftxt
  by_cases h : d = 1
  · rw [if_pos h, if_pos h, byts_txt]
  · rw [if_neg h, if_neg h, byts_append, byts_append, byts_txt, byts_txt]
    rfl
theorem decs_inj {m n : Nat} (h : decs m = decs n) : m = n := by rw [← numOf_decs m, h, numOf_decs]
theorem ftxt_inj {n d n' d' : Nat} (h : ftxt n d = ftxt n' d') : n = n' ∧ d = d' := by
  have e := congrArg byts h
  rw [byts_ftxt, byts_ftxt] at e
  by_cases h1 : d = 1
  · by_cases h2 : d' = 1
    · rw [if_pos h1, if_pos h2] at e
      exact ⟨decs_inj e, by rw [h1, h2]⟩
    · rw [if_pos h1, if_neg h2] at e
      exact absurd rfl (decs_slash n 47 (by rw [e]; simp))
  · by_cases h2 : d' = 1
    · rw [if_neg h1, if_pos h2] at e
      exact absurd rfl (decs_slash n' 47 (by rw [← e]; simp))
    · rw [if_neg h1, if_neg h2] at e
      obtain ⟨e1, e2⟩ := cut_inj (decs_slash n) (decs_slash n') e
      exact ⟨decs_inj e1, decs_inj e2⟩

theorem toList_inj {a b : ByteArray} (h : a.toList = b.toList) : a = b := by
  rw [ByteArray.toList_eq, ByteArray.toList_eq] at h
  cases a; cases b
  simp at h
  rw [h]
/-- What the law of the order asks of three fractions. -/
structure Ord (p1 q1 p2 q2 p3 q3 : Nat) (x y z : Int) : Prop where
  gf : cmpI (p2 * q1) (p1 * q2) = -x
  ff : cmpI (p1 * q1) (p1 * q1) = 0
  st : cmpI ((p1 * q3 + p3 * q1) / Nat.gcd (p1 * q3 + p3 * q1) (q1 * q3) * ((q2 * q3) / Nat.gcd (p2 * q3 + p3 * q2) (q2 * q3))) ((p2 * q3 + p3 * q2) / Nat.gcd (p2 * q3 + p3 * q2) (q2 * q3) * ((q1 * q3) / Nat.gcd (p1 * q3 + p3 * q1) (q1 * q3))) = x
  tx : ((ftxt p1 q1).toList == (ftxt p2 q2).toList) = (x == 0)
  xs : x = -1 ∨ x = 0 ∨ x = 1
  le : x ≤ 0 → y ≤ 0 → z ≤ 0
  ge : 0 ≤ x → 0 ≤ y → 0 ≤ z

theorem ord_le {p1 q1 p2 q2 p3 q3 : Nat} (hq1 : 0 < q1) (hq2 : 0 < q2) (hq3 : 0 < q3) (h1 : p1 * q2 ≤ p2 * q1) (h2 : p2 * q3 ≤ p3 * q2) : p1 * q3 ≤ p3 * q1 := by
  have a := Nat.mul_le_mul_right q3 h1
  have b := Nat.mul_le_mul_right q1 h2
  refine Nat.le_of_mul_le_mul_right (c := q2) ?_ hq2
  have e1 : p1 * q3 * q2 = p1 * q2 * q3 := by simp only [Nat.mul_comm, Nat.mul_left_comm, Nat.mul_assoc]
  have e2 : p3 * q1 * q2 = p3 * q2 * q1 := by simp only [Nat.mul_comm, Nat.mul_left_comm, Nat.mul_assoc]
  have e3 : p2 * q1 * q3 = p2 * q3 * q1 := by simp only [Nat.mul_comm, Nat.mul_left_comm, Nat.mul_assoc]
  omega
theorem cmpI_np {m n : Nat} : cmpI m n ≤ 0 ↔ m ≤ n := by
  rcases cmpI_cases m n with ⟨h, e⟩ | ⟨h, e⟩ | ⟨h, e⟩ <;> rw [e] <;> omega
theorem cmpI_nn {m n : Nat} : 0 ≤ cmpI m n ↔ n ≤ m := by
  rcases cmpI_cases m n with ⟨h, e⟩ | ⟨h, e⟩ | ⟨h, e⟩ <;> rw [e] <;> omega

theorem ord_ok {p1 q1 p2 q2 p3 q3 : Nat} (hq1 : 0 < q1) (hq2 : 0 < q2) (hq3 : 0 < q3) (g1 : Nat.gcd p1 q1 = 1) (g2 : Nat.gcd p2 q2 = 1) :
    Ord p1 q1 p2 q2 p3 q3 (cmpI (p1 * q2) (p2 * q1)) (cmpI (p2 * q3) (p3 * q2)) (cmpI (p1 * q3) (p3 * q1)) := by
  refine ⟨cmpI_swap _ _, cmpI_self _, ?_, ?_, ?_, ?_, ?_⟩
  · rw [cmpI_red (Nat.gcd_dvd_left _ _) (Nat.gcd_dvd_right _ _) (Nat.gcd_dvd_left _ _) (Nat.gcd_dvd_right _ _) (Nat.gcd_pos_of_pos_right _ (Nat.mul_pos hq1 hq3)) (Nat.gcd_pos_of_pos_right _ (Nat.mul_pos hq2 hq3))]
    have e1 : (p1 * q3 + p3 * q1) * (q2 * q3) = (q3 * q3) * (p1 * q2) + p3 * q1 * q2 * q3 := by
      rw [Nat.add_mul]; simp only [Nat.mul_comm, Nat.mul_left_comm, Nat.mul_assoc]
    have e2 : (p2 * q3 + p3 * q2) * (q1 * q3) = (q3 * q3) * (p2 * q1) + p3 * q1 * q2 * q3 := by
      rw [Nat.add_mul]; simp only [Nat.mul_comm, Nat.mul_left_comm, Nat.mul_assoc]
    rw [e1, e2, cmpI_add, cmpI_mul (Nat.mul_pos hq3 hq3)]
  · rcases cmpI_cases (p1 * q2) (p2 * q1) with ⟨h, e⟩ | ⟨h, e⟩ | ⟨h, e⟩
    · rw [e, beq_eq_false_iff_ne.2 (fun hh => ?_)]; · rfl
      obtain ⟨rfl, rfl⟩ := ftxt_inj (toList_inj hh)
      omega
    · rw [e]
      obtain ⟨rfl, rfl⟩ := low_eq hq1 hq2 g1 g2 h
      simp
    · rw [e, beq_eq_false_iff_ne.2 (fun hh => ?_)]; · rfl
      obtain ⟨rfl, rfl⟩ := ftxt_inj (toList_inj hh)
      omega
  · rcases cmpI_cases (p1 * q2) (p2 * q1) with ⟨h, e⟩ | ⟨h, e⟩ | ⟨h, e⟩ <;> rw [e] <;> omega
  · intro a b
    rw [cmpI_np] at a b ⊢
    exact ord_le hq1 hq2 hq3 a b
  · intro a b
    rw [cmpI_nn] at a b ⊢
    exact ord_le hq3 hq2 hq1 b a

/-- The same as RetFE, with no error. -/
def RetF0 (w : World) (n d : Nat) (e : Ending) (w' : World) : Prop := ∃ v, e = .returned (.tuple #[v, .int .i64 0]) ∧ IsF w' v n d ∧ Below w.heap.size w w'
theorem RetFE.ok {w : World} {n d er : Nat} (h : er = 0) {e : Ending} {w' : World} (hr : RetFE w n d er e w') : RetF0 w n d e w' := by
  obtain ⟨v, h1, h2, h3⟩ := hr
  subst h
  exact ⟨v, h1, h2, h3⟩
theorem within_ok {n d : Nat} (h1 : n < P2 16384) (h2 : d < P2 16384) : withinE n d = 0 := if_pos ⟨h1, h2⟩
theorem add_bd {p1 q1 p3 q3 M : Nat} (h1 : p1 < P2 M) (h2 : q1 < P2 M) (h3 : p3 < P2 M) (h4 : q3 < P2 M) : p1 * q3 + p3 * q1 < P2 (2 * M + 1) ∧ q1 * q3 < P2 (2 * M + 1) := by
  have a := mul_lt_P2 h1 h4
  have b := mul_lt_P2 h3 h2
  have c := mul_lt_P2 h2 h4
  rw [← Nat.two_mul] at a b c
  exact ⟨add_lt_P2 a b, lt_P2_mono c (by omega)⟩
theorem div_bd {a g M : Nat} (h : a < P2 M) : a / g < P2 M := Nat.lt_of_le_of_lt (Nat.div_le_self _ _) h

structure OrdC (p1 q1 p2 q2 p3 q3 : Nat) (x y z : Int) (S1 D1 S2 D2 : Nat) (t1 t2 : ByteArray) : Prop where
  c12 : ∀ {w : World} {f g : Value}, IsF w f p1 q1 → IsF w g p2 q2 → Calls Try.prog 63 #[f, g] w (RetI w x)
  c23 : ∀ {w : World} {f g : Value}, IsF w f p2 q2 → IsF w g p3 q3 → Calls Try.prog 63 #[f, g] w (RetI w y)
  c13 : ∀ {w : World} {f g : Value}, IsF w f p1 q1 → IsF w g p3 q3 → Calls Try.prog 63 #[f, g] w (RetI w z)
  a13 : ∀ {w : World} {f g : Value}, IsF w f p1 q1 → IsF w g p3 q3 → Calls Try.prog 64 #[f, g] w (RetF0 w S1 D1)
  a23 : ∀ {w : World} {f g : Value}, IsF w f p2 q2 → IsF w g p3 q3 → Calls Try.prog 64 #[f, g] w (RetF0 w S2 D2)
  c21 : ∀ {w : World} {f g : Value}, IsF w f p2 q2 → IsF w g p1 q1 → Calls Try.prog 63 #[f, g] w (RetI w (-x))
  cst : ∀ {w : World} {f g : Value}, IsF w f S1 D1 → IsF w g S2 D2 → Calls Try.prog 63 #[f, g] w (RetI w x)
  c11 : ∀ {w : World} {f g : Value}, IsF w f p1 q1 → IsF w g p1 q1 → Calls Try.prog 63 #[f, g] w (RetI w 0)
  s1 : ∀ {w : World} {f : Value}, IsF w f p1 q1 → Calls Try.prog 47 #[f] w (RetS w t1)
  s2 : ∀ {w : World} {f : Value}, IsF w f p2 q2 → Calls Try.prog 47 #[f] w (RetS w t2)
  tx : (t1.toList == t2.toList) = (x == 0)
  xs : x = -1 ∨ x = 0 ∨ x = 1
  le : x ≤ 0 → y ≤ 0 → z ≤ 0
  ge : 0 ≤ x → 0 ≤ y → 0 ≤ z

theorem ordC {p1 q1 p2 q2 p3 q3 : Nat} (h1 : 0 < q1 ∧ Nat.gcd p1 q1 = 1 ∧ p1 < P2 128 ∧ q1 < P2 128) (h2 : 0 < q2 ∧ Nat.gcd p2 q2 = 1 ∧ p2 < P2 128 ∧ q2 < P2 128)
    (h3 : 0 < q3 ∧ Nat.gcd p3 q3 = 1 ∧ p3 < P2 128 ∧ q3 < P2 128) : ∃ x y z S1 D1 S2 D2 t1 t2, OrdC p1 q1 p2 q2 p3 q3 x y z S1 D1 S2 D2 t1 t2 := by
  obtain ⟨a1, b1, c1, d1⟩ := h1
  obtain ⟨a2, b2, c2, d2⟩ := h2
  obtain ⟨a3, b3, c3, d3⟩ := h3
  have o := ord_ok (p3 := p3) a1 a2 a3 b1 b2
  have u1 := add_bd c1 d1 c3 d3
  have u2 := add_bd c2 d2 c3 d3
  have v1 := div_bd (g := Nat.gcd (p1 * q3 + p3 * q1) (q1 * q3)) u1.1
  have v2 := div_bd (g := Nat.gcd (p1 * q3 + p3 * q1) (q1 * q3)) u1.2
  have v3 := div_bd (g := Nat.gcd (p2 * q3 + p3 * q2) (q2 * q3)) u2.1
  have v4 := div_bd (g := Nat.gcd (p2 * q3 + p3 * q2) (q2 * q3)) u2.2
  refine ⟨_, _, _, _, _, _, _, _, _, ⟨fun i j => FCmp_any i j 128 (by omega) c1 d1 c2 d2, fun i j => FCmp_any i j 128 (by omega) c2 d2 c3 d3, fun i j => FCmp_any i j 128 (by omega) c1 d1 c3 d3,
    fun i j => (FAdd_any i j 128 (by omega) c1 d1 c3 d3).mono fun e w' h => h.ok (within_ok (lt_P2_mono v1 (by omega)) (lt_P2_mono v2 (by omega))), fun i j => (FAdd_any i j 128 (by omega) c2 d2 c3 d3).mono fun e w' h => h.ok (within_ok (lt_P2_mono v3 (by omega)) (lt_P2_mono v4 (by omega))),
    fun i j => ?_, fun i j => ?_, fun i j => ?_, fun i => FString_any i 128 (by omega) c1 d1, fun i => FString_any i 128 (by omega) c2 d2, o.tx, o.xs, o.le, o.ge⟩⟩
  · have := FCmp_any i j 128 (by omega) c2 d2 c1 d1
    rw [o.gf] at this
    exact this
  · have := FCmp_any i j (2 * 128 + 1) (by omega) v1 v2 v3 v4
    rw [o.st] at this
    exact this
  · have := FCmp_any i j 128 (by omega) c1 d1 c1 d1
    rw [o.ff] at this
    exact this

end Go.Proofs.Ytppbhjhbaknidaa

/-
  The walk of the law NatFracOrder. No condition.
-/
set_option linter.unusedVariables false
set_option linter.unusedSimpArgs false
namespace Go.Proofs.Ytppbhjhbaknidaa
open Go.RowKit

def IsGo (w : World) (ok : Bool) (v : Value) (n d : Nat) : Prop := ok = true → IsG w v n d
theorem IsGo.below {w w' : World} {ok : Bool} {v : Value} {n d : Nat} (h : IsGo w ok v n d) (hb : Below w.heap.size w w') : IsGo w' ok v n d := fun o => (h o).below hb
theorem profg (w : World) (s t s' t' : Value) : Below w.heap.size w ((w.alloc (.cells #[s, t] 50)).alloc (.cells #[s', t'] 55)) ∧ Fx ((w.alloc (.cells #[s, t] 50)).alloc (.cells #[s', t'] 55)) w.heap.size s t ∧ Gx ((w.alloc (.cells #[s, t] 50)).alloc (.cells #[s', t'] 55)) (w.heap.size + 1) s' t' := by
  obtain ⟨hB, kf⟩ := prof w s t
  obtain ⟨hC, kg⟩ := prog' (w.alloc (.cells #[s, t] 50)) s' t'
  have hz : (w.alloc (.cells #[s, t] 50)).heap.size = w.heap.size + 1 := by simp
  rw [hz] at kg
  exact ⟨nextB hB hC, kf.below hC, kg⟩

set_option maxHeartbeats 16000000 in
set_option maxRecDepth 100000 in
theorem NatFracOrder_walk (va : Value) (vb : Value) (vc : Value) (vd : Value) (vm : Value) (vk : Value) (w : World) (ia : In16 w va) (ib : In16 w vb) (ic : In16 w vc) (id : In16 w vd) (im : In16 w vm) (ik : In16 w vk) :
    Calls Try.prog 12 #[va, vb, vc, vd, vm, vk] w (RetB w true) := by
  have hB := Below.refl w.heap.size w
  go_enter Try.func12, Try.ntmps12
  go_wp2_with fail
  refine (half_any ia ib 8 (by omega) (by omega)).mono ?_
  rintro e w1 ⟨ok1, p1, q1, v_, aog1, aoh1, kg1, capg1, kh1, caph1, rfl, HH1, jf, jg, b⟩
  clear jg
  replace hB := nextB hB b
  replace ia := ia.below b
  replace ib := ib.below b
  replace ic := ic.below b
  replace id := id.below b
  replace im := im.below b
  replace ik := ik.below b
  clear b
  replace HH1 := Lib.hid HH1.out
  have ff1 := jf
  obtain ⟨aof1, qf1, capf1, aof12, qf12, capf12, rfl, -, -, -⟩ := ff1.slice
  clear jf
  obtain ⟨b, kf1, kf12⟩ := profg w1 (.slice aof1 qf1 capf1) (.slice aof12 qf12 capf12) (.slice aog1 kg1 capg1) (.slice aoh1 kh1 caph1)
  obtain ⟨Rf1, hRf1⟩ : ∃ R, R = w1.heap.size := ⟨_, rfl⟩
  have cc0 := kf1.cell0
  have cc1 := kf1.cell1
  have cc2 := kf12.cell0
  have cc3 := kf12.cell1
  go_wp2_with fail
  obtain ⟨w2, hw⟩ : ∃ w_ : World, w_ = ((w1.alloc (.cells #[.slice aof1 qf1 capf1, .slice aof12 qf12 capf12] 50)).alloc (.cells #[.slice aog1 kg1 capg1, .slice aoh1 kh1 caph1] 55)) := ⟨_, rfl⟩
  rw [← hw] at b kf1 kf12 ⊢
  rw [← hRf1] at kf1 kf12 ⊢
  clear hw hRf1 cc0 cc1 cc2 cc3
  replace hB := nextB hB b
  replace ia := ia.below b
  replace ib := ib.below b
  replace ic := ic.below b
  replace id := id.below b
  replace im := im.below b
  replace ik := ik.below b
  replace ff1 := ff1.below b
  clear b
  clear kf12
  clear ia ib
  refine (half_any ic id 8 (by omega) (by omega)).mono ?_
  rintro e w3 ⟨ok2, p2, q2, v_, aog2, aoh2, kg2, capg2, kh2, caph2, rfl, HH2, jf, jg, b⟩
  clear jg
  replace hB := nextB hB b
  replace ic := ic.below b
  replace id := id.below b
  replace im := im.below b
  replace ik := ik.below b
  replace ff1 := ff1.below b
  replace kf1 := kf1.below b
  clear b
  replace HH2 := Lib.hid HH2.out
  have ff2 := jf
  obtain ⟨aof2, qf2, capf2, aof22, qf22, capf22, rfl, -, -, -⟩ := ff2.slice
  clear jf
  obtain ⟨b, kf2, kf22⟩ := profg w3 (.slice aof2 qf2 capf2) (.slice aof22 qf22 capf22) (.slice aog2 kg2 capg2) (.slice aoh2 kh2 caph2)
  obtain ⟨Rf2, hRf2⟩ : ∃ R, R = w3.heap.size := ⟨_, rfl⟩
  have cc0 := (kf1.below b).cell0
  have cc1 := (kf1.below b).cell1
  have cc2 := kf2.cell0
  have cc3 := kf2.cell1
  have cc4 := kf22.cell0
  have cc5 := kf22.cell1
  go_wp2_with fail
  obtain ⟨w4, hw⟩ : ∃ w_ : World, w_ = ((w3.alloc (.cells #[.slice aof2 qf2 capf2, .slice aof22 qf22 capf22] 50)).alloc (.cells #[.slice aog2 kg2 capg2, .slice aoh2 kh2 caph2] 55)) := ⟨_, rfl⟩
  rw [← hw] at b kf2 kf22 ⊢
  rw [← hRf2] at kf2 kf22 ⊢
  clear hw hRf2 cc0 cc1 cc2 cc3 cc4 cc5
  replace hB := nextB hB b
  replace ic := ic.below b
  replace id := id.below b
  replace im := im.below b
  replace ik := ik.below b
  replace ff1 := ff1.below b
  replace kf1 := kf1.below b
  replace ff2 := ff2.below b
  clear b
  clear kf22
  clear ic id
  refine (half_any im ik 8 (by omega) (by omega)).mono ?_
  rintro e w5 ⟨ok3, p3, q3, v_, aog3, aoh3, kg3, capg3, kh3, caph3, rfl, HH3, jf, jg, b⟩
  clear jg
  replace hB := nextB hB b
  replace im := im.below b
  replace ik := ik.below b
  replace ff1 := ff1.below b
  replace kf1 := kf1.below b
  replace ff2 := ff2.below b
  replace kf2 := kf2.below b
  clear b
  replace HH3 := Lib.hid HH3.out
  have ff3 := jf
  obtain ⟨aof3, qf3, capf3, aof32, qf32, capf32, rfl, -, -, -⟩ := ff3.slice
  clear jf
  clear im ik
  obtain ⟨x, y, z, S1, D1, S2, D2, t1, t2, HO_⟩ := ordC HH1.out HH2.out HH3.out
  have HO := Lib.hid HO_
  clear HO_
  cases ok1
  · obtain ⟨b, kf3, kf32⟩ := profg w5 (.slice aof3 qf3 capf3) (.slice aof32 qf32 capf32) (.slice aog3 kg3 capg3) (.slice aoh3 kh3 caph3)
    obtain ⟨Rf3, hRf3⟩ : ∃ R, R = w5.heap.size := ⟨_, rfl⟩
    have cc0 := (kf1.below b).cell0
    have cc1 := (kf1.below b).cell1
    have cc2 := (kf2.below b).cell0
    have cc3 := (kf2.below b).cell1
    have cc4 := kf3.cell0
    have cc5 := kf3.cell1
    have cc6 := kf32.cell0
    have cc7 := kf32.cell1
    go_wp2_with fail
    obtain ⟨w6, hw⟩ : ∃ w_ : World, w_ = ((w5.alloc (.cells #[.slice aof3 qf3 capf3, .slice aof32 qf32 capf32] 50)).alloc (.cells #[.slice aog3 kg3 capg3, .slice aoh3 kh3 caph3] 55)) := ⟨_, rfl⟩
    rw [← hw] at b kf3 kf32 ⊢
    rw [← hRf3] at kf3 kf32 ⊢
    clear hw hRf3 cc0 cc1 cc2 cc3 cc4 cc5 cc6 cc7
    replace hB := nextB hB b
    replace ff1 := ff1.below b
    replace kf1 := kf1.below b
    replace ff2 := ff2.below b
    replace kf2 := kf2.below b
    replace ff3 := ff3.below b
    clear b
    clear kf32
    refine (awake_any _).mono ?_
    rintro e w7 ⟨rfl, b⟩
    replace hB := nextB hB b
    replace ff1 := ff1.below b
    replace kf1 := kf1.below b
    replace ff2 := ff2.below b
    replace kf2 := kf2.below b
    replace ff3 := ff3.below b
    replace kf3 := kf3.below b
    clear b
    go_wp2
    go_ret
    exact ⟨rfl, hB⟩
  · cases ok2
    · obtain ⟨b, kf3, kf32⟩ := profg w5 (.slice aof3 qf3 capf3) (.slice aof32 qf32 capf32) (.slice aog3 kg3 capg3) (.slice aoh3 kh3 caph3)
      obtain ⟨Rf3, hRf3⟩ : ∃ R, R = w5.heap.size := ⟨_, rfl⟩
      have cc0 := (kf1.below b).cell0
      have cc1 := (kf1.below b).cell1
      have cc2 := (kf2.below b).cell0
      have cc3 := (kf2.below b).cell1
      have cc4 := kf3.cell0
      have cc5 := kf3.cell1
      have cc6 := kf32.cell0
      have cc7 := kf32.cell1
      go_wp2_with fail
      obtain ⟨w6, hw⟩ : ∃ w_ : World, w_ = ((w5.alloc (.cells #[.slice aof3 qf3 capf3, .slice aof32 qf32 capf32] 50)).alloc (.cells #[.slice aog3 kg3 capg3, .slice aoh3 kh3 caph3] 55)) := ⟨_, rfl⟩
      rw [← hw] at b kf3 kf32 ⊢
      rw [← hRf3] at kf3 kf32 ⊢
      clear hw hRf3 cc0 cc1 cc2 cc3 cc4 cc5 cc6 cc7
      replace hB := nextB hB b
      replace ff1 := ff1.below b
      replace kf1 := kf1.below b
      replace ff2 := ff2.below b
      replace kf2 := kf2.below b
      replace ff3 := ff3.below b
      clear b
      clear kf32
      refine (awake_any _).mono ?_
      rintro e w7 ⟨rfl, b⟩
      replace hB := nextB hB b
      replace ff1 := ff1.below b
      replace kf1 := kf1.below b
      replace ff2 := ff2.below b
      replace kf2 := kf2.below b
      replace ff3 := ff3.below b
      replace kf3 := kf3.below b
      clear b
      go_wp2
      go_ret
      exact ⟨rfl, hB⟩
    · cases ok3
      · obtain ⟨b, kf3, kf32⟩ := profg w5 (.slice aof3 qf3 capf3) (.slice aof32 qf32 capf32) (.slice aog3 kg3 capg3) (.slice aoh3 kh3 caph3)
        obtain ⟨Rf3, hRf3⟩ : ∃ R, R = w5.heap.size := ⟨_, rfl⟩
        have cc0 := (kf1.below b).cell0
        have cc1 := (kf1.below b).cell1
        have cc2 := (kf2.below b).cell0
        have cc3 := (kf2.below b).cell1
        have cc4 := kf3.cell0
        have cc5 := kf3.cell1
        have cc6 := kf32.cell0
        have cc7 := kf32.cell1
        go_wp2_with fail
        obtain ⟨w6, hw⟩ : ∃ w_ : World, w_ = ((w5.alloc (.cells #[.slice aof3 qf3 capf3, .slice aof32 qf32 capf32] 50)).alloc (.cells #[.slice aog3 kg3 capg3, .slice aoh3 kh3 caph3] 55)) := ⟨_, rfl⟩
        rw [← hw] at b kf3 kf32 ⊢
        rw [← hRf3] at kf3 kf32 ⊢
        clear hw hRf3 cc0 cc1 cc2 cc3 cc4 cc5 cc6 cc7
        replace hB := nextB hB b
        replace ff1 := ff1.below b
        replace kf1 := kf1.below b
        replace ff2 := ff2.below b
        replace kf2 := kf2.below b
        replace ff3 := ff3.below b
        clear b
        clear kf32
        refine (awake_any _).mono ?_
        rintro e w7 ⟨rfl, b⟩
        replace hB := nextB hB b
        replace ff1 := ff1.below b
        replace kf1 := kf1.below b
        replace ff2 := ff2.below b
        replace kf2 := kf2.below b
        replace ff3 := ff3.below b
        replace kf3 := kf3.below b
        clear b
        go_wp2
        go_ret
        exact ⟨rfl, hB⟩
      · obtain ⟨b, kf3, kf32⟩ := profg w5 (.slice aof3 qf3 capf3) (.slice aof32 qf32 capf32) (.slice aog3 kg3 capg3) (.slice aoh3 kh3 caph3)
        obtain ⟨Rf3, hRf3⟩ : ∃ R, R = w5.heap.size := ⟨_, rfl⟩
        have cc0 := (kf1.below b).cell0
        have cc1 := (kf1.below b).cell1
        have cc2 := (kf2.below b).cell0
        have cc3 := (kf2.below b).cell1
        have cc4 := kf3.cell0
        have cc5 := kf3.cell1
        have cc6 := kf32.cell0
        have cc7 := kf32.cell1
        go_wp2_with fail
        obtain ⟨w6, hw⟩ : ∃ w_ : World, w_ = ((w5.alloc (.cells #[.slice aof3 qf3 capf3, .slice aof32 qf32 capf32] 50)).alloc (.cells #[.slice aog3 kg3 capg3, .slice aoh3 kh3 caph3] 55)) := ⟨_, rfl⟩
        rw [← hw] at b kf3 kf32 ⊢
        rw [← hRf3] at kf3 kf32 ⊢
        clear hw hRf3 cc0 cc1 cc2 cc3 cc4 cc5 cc6 cc7
        replace hB := nextB hB b
        replace ff1 := ff1.below b
        replace kf1 := kf1.below b
        replace ff2 := ff2.below b
        replace kf2 := kf2.below b
        replace ff3 := ff3.below b
        clear b
        clear kf32
        obtain ⟨wo, hwo⟩ : ∃ wo : World, wo = w6 := ⟨_, rfl⟩
        rw [← hwo] at hB ff1 kf1 ff2 kf2 ff3 kf3 ⊢
        clear hwo
        have cc0 := kf1.cell0
        have cc1 := kf1.cell1
        have cc2 := kf2.cell0
        have cc3 := kf2.cell1
        have cc4 := kf3.cell0
        have cc5 := kf3.cell1
        have ltf1 := kf1.lt
        have ltf2 := kf2.lt
        have ltf3 := kf3.lt
        go_wp2
        go_region_held3 (fun w' => w'.cell? ⟨Rf1, 0, none⟩ = some (.slice aof1 qf1 capf1) ∧ w'.cell? ⟨Rf1, 1, none⟩ = some (.slice aof12 qf12 capf12) ∧ w'.cell? ⟨Rf2, 0, none⟩ = some (.slice aof2 qf2 capf2) ∧ w'.cell? ⟨Rf2, 1, none⟩ = some (.slice aof22 qf22 capf22) ∧ w'.cell? ⟨Rf3, 0, none⟩ = some (.slice aof3 qf3 capf3) ∧ w'.cell? ⟨Rf3, 1, none⟩ = some (.slice aof32 qf32 capf32) ∧ Below wo.heap.size wo w')
          (first
            | exact ⟨cc0, cc1, cc2, cc3, cc4, cc5, (Below.refl _ _).drew⟩
            | (go_split_ands; exact ⟨by assumption, by assumption, by assumption, by assumption, by assumption, by assumption, by assumption⟩)
            | (go_split_ands; have hk := nextB (by assumption) bb; exact ⟨(hk.cell (p := ⟨Rf1, 0, none⟩) ltf1).trans cc0, (hk.cell (p := ⟨Rf1, 1, none⟩) ltf1).trans cc1, (hk.cell (p := ⟨Rf2, 0, none⟩) ltf2).trans cc2, (hk.cell (p := ⟨Rf2, 1, none⟩) ltf2).trans cc3, (hk.cell (p := ⟨Rf3, 0, none⟩) ltf3).trans cc4, (hk.cell (p := ⟨Rf3, 1, none⟩) ltf3).trans cc5, hk⟩))
          (first
            | (go_at_call 63; go_split_ands; (first | with_reducible refine (HO.out.c12 (ff1.below (by assumption)) (ff2.below (by assumption))).mono ?_ | with_reducible refine (HO.out.c23 (ff2.below (by assumption)) (ff3.below (by assumption))).mono ?_ | with_reducible refine (HO.out.c13 (ff1.below (by assumption)) (ff3.below (by assumption))).mono ?_); rintro e wq ⟨rfl, bb⟩))
        go_split_ands
        have b : Below wo.heap.size wo wq := by assumption
        obtain ⟨w7, hw⟩ : ∃ w_ : World, w_ = wq := ⟨_, rfl⟩
        rw [← hw] at b ⊢
        clear hw
        replace hB := nextB hB b
        replace ff1 := ff1.below b
        replace kf1 := kf1.below b
        replace ff2 := ff2.below b
        replace kf2 := kf2.below b
        replace ff3 := ff3.below b
        replace kf3 := kf3.below b
        clear b
        have cc0 := kf1.cell0
        have cc1 := kf1.cell1
        have cc2 := kf2.cell0
        have cc3 := kf2.cell1
        have cc4 := kf3.cell0
        have cc5 := kf3.cell1
        go_wp2_with fail
        clear cc0 cc1 cc2 cc3 cc4 cc5
        refine (HO.out.a13 ff1 ff3).mono ?_
        rintro e w8 ⟨v_, rfl, j_, b⟩
        replace hB := nextB hB b
        replace ff1 := ff1.below b
        replace kf1 := kf1.below b
        replace ff2 := ff2.below b
        replace kf2 := kf2.below b
        replace ff3 := ff3.below b
        replace kf3 := kf3.below b
        clear b
        have fs := j_
        obtain ⟨aos, qs, caps, aos2, qs2, caps2, rfl, -, -, -⟩ := fs.slice
        clear j_
        obtain ⟨b, ks⟩ := prof w8 (.slice aos qs caps) (.slice aos2 qs2 caps2)
        obtain ⟨Rs, hRs⟩ : ∃ R, R = w8.heap.size := ⟨_, rfl⟩
        have hles : w.heap.size ≤ Rs := by rw [hRs]; exact hB.size
        have cc0 := (kf1.below b).cell0
        have cc1 := (kf1.below b).cell1
        have cc2 := (kf2.below b).cell0
        have cc3 := (kf2.below b).cell1
        have cc4 := (kf3.below b).cell0
        have cc5 := (kf3.below b).cell1
        have cc6 := ks.cell0
        have cc7 := ks.cell1
        go_wp2_with fail
        obtain ⟨w9, hw⟩ : ∃ w_ : World, w_ = (w8.alloc (.cells #[.slice aos qs caps, .slice aos2 qs2 caps2] 50)) := ⟨_, rfl⟩
        rw [← hw] at b ks ⊢
        rw [← hRs] at ks ⊢
        clear hw hRs cc0 cc1 cc2 cc3 cc4 cc5 cc6 cc7
        replace hB := nextB hB b
        replace ff1 := ff1.below b
        replace kf1 := kf1.below b
        replace ff2 := ff2.below b
        replace kf2 := kf2.below b
        replace ff3 := ff3.below b
        replace kf3 := kf3.below b
        replace fs := fs.below b
        clear b
        refine (HO.out.a23 ff2 ff3).mono ?_
        rintro e w10 ⟨v_, rfl, j_, b⟩
        replace hB := nextB hB b
        replace ff1 := ff1.below b
        replace kf1 := kf1.below b
        replace ff2 := ff2.below b
        replace kf2 := kf2.below b
        replace ff3 := ff3.below b
        replace kf3 := kf3.below b
        replace fs := fs.below b
        replace ks := ks.below b
        clear b
        have ft := j_
        obtain ⟨aot, qt, capt, aot2, qt2, capt2, rfl, -, -, -⟩ := ft.slice
        clear j_
        have hle := HO.out.le
        have hge := HO.out.ge
        rcases HO.out.xs with rfl | rfl | rfl
        · by_cases hy : y ≤ 0
          · have hz := hle (by omega) hy
            clear hle hge
            have hd1 : decide (y ≤ 0) = true := decide_eq_true (by omega)
            have hd2 : decide (0 < z) = false := decide_eq_false (by omega)
            have H21 := Lib.hid (fun w_ f_ g_ (h1 : IsF w_ f_ p2 q2) (h2 : IsF w_ g_ p1 q1) => (show Calls Try.prog 63 #[f_, g_] w_ (RetI w_ (1)) from HO.out.c21 h1 h2))
            have hwa : wrap64 (1) = 1 := by unfold wrap64; omega
            have hwd : IntKind.i64.wrap (1) = 1 := IntWalk.i64_in _ (by omega)
            have hwb : wrap64 (- -1) = 1 := by unfold wrap64; omega
            have hwc : IntKind.i64.wrap (- -1) = 1 := IntWalk.i64_in _ (by omega)
            have htx : (t1.toList == t2.toList) = false := HO.out.tx
            obtain ⟨b, kt⟩ := prof w10 (.slice aot qt capt) (.slice aot2 qt2 capt2)
            obtain ⟨Rt, hRt⟩ : ∃ R, R = w10.heap.size := ⟨_, rfl⟩
            have hlet : w.heap.size ≤ Rt := by rw [hRt]; exact hB.size
            have cc0 := (kf1.below b).cell0
            have cc1 := (kf1.below b).cell1
            have cc2 := (kf2.below b).cell0
            have cc3 := (kf2.below b).cell1
            have cc4 := (kf3.below b).cell0
            have cc5 := (kf3.below b).cell1
            have cc6 := (ks.below b).cell0
            have cc7 := (ks.below b).cell1
            have cc8 := kt.cell0
            have cc9 := kt.cell1
            go_wp2_with fail
            obtain ⟨w11, hw⟩ : ∃ w_ : World, w_ = (w10.alloc (.cells #[.slice aot qt capt, .slice aot2 qt2 capt2] 50)) := ⟨_, rfl⟩
            rw [← hw] at b kt ⊢
            rw [← hRt] at kt ⊢
            clear hw hRt cc0 cc1 cc2 cc3 cc4 cc5 cc6 cc7 cc8 cc9
            replace hB := nextB hB b
            replace ff1 := ff1.below b
            replace kf1 := kf1.below b
            replace ff2 := ff2.below b
            replace kf2 := kf2.below b
            replace ff3 := ff3.below b
            replace kf3 := kf3.below b
            replace fs := fs.below b
            replace ks := ks.below b
            replace ft := ft.below b
            clear b
            obtain ⟨wo, hwo⟩ : ∃ wo : World, wo = w11 := ⟨_, rfl⟩
            rw [← hwo] at hB ff1 kf1 ff2 kf2 ff3 kf3 fs ks ft kt ⊢
            clear hwo
            have cc0 := kf1.cell0
            have cc1 := kf1.cell1
            have cc2 := kf2.cell0
            have cc3 := kf2.cell1
            have cc4 := kf3.cell0
            have cc5 := kf3.cell1
            have cc6 := ks.cell0
            have cc7 := ks.cell1
            have cc8 := kt.cell0
            have cc9 := kt.cell1
            have ltf1 := kf1.lt
            have ltf2 := kf2.lt
            have ltf3 := kf3.lt
            have lts := ks.lt
            have ltt := kt.lt
            go_wp2
            go_region_held3 (fun w' => w'.cell? ⟨Rf1, 0, none⟩ = some (.slice aof1 qf1 capf1) ∧ w'.cell? ⟨Rf1, 1, none⟩ = some (.slice aof12 qf12 capf12) ∧ w'.cell? ⟨Rf2, 0, none⟩ = some (.slice aof2 qf2 capf2) ∧ w'.cell? ⟨Rf2, 1, none⟩ = some (.slice aof22 qf22 capf22) ∧ w'.cell? ⟨Rf3, 0, none⟩ = some (.slice aof3 qf3 capf3) ∧ w'.cell? ⟨Rf3, 1, none⟩ = some (.slice aof32 qf32 capf32) ∧ w'.cell? ⟨Rs, 0, none⟩ = some (.slice aos qs caps) ∧ w'.cell? ⟨Rs, 1, none⟩ = some (.slice aos2 qs2 caps2) ∧ w'.cell? ⟨Rt, 0, none⟩ = some (.slice aot qt capt) ∧ w'.cell? ⟨Rt, 1, none⟩ = some (.slice aot2 qt2 capt2) ∧ Below wo.heap.size wo w')
              (first
                | exact ⟨cc0, cc1, cc2, cc3, cc4, cc5, cc6, cc7, cc8, cc9, (Below.refl _ _).drew⟩
                | (go_split_ands; exact ⟨by assumption, by assumption, by assumption, by assumption, by assumption, by assumption, by assumption, by assumption, by assumption, by assumption, by assumption⟩)
                | (go_split_ands; have hk := nextB (by assumption) bb; exact ⟨(hk.cell (p := ⟨Rf1, 0, none⟩) ltf1).trans cc0, (hk.cell (p := ⟨Rf1, 1, none⟩) ltf1).trans cc1, (hk.cell (p := ⟨Rf2, 0, none⟩) ltf2).trans cc2, (hk.cell (p := ⟨Rf2, 1, none⟩) ltf2).trans cc3, (hk.cell (p := ⟨Rf3, 0, none⟩) ltf3).trans cc4, (hk.cell (p := ⟨Rf3, 1, none⟩) ltf3).trans cc5, (hk.cell (p := ⟨Rs, 0, none⟩) lts).trans cc6, (hk.cell (p := ⟨Rs, 1, none⟩) lts).trans cc7, (hk.cell (p := ⟨Rt, 0, none⟩) ltt).trans cc8, (hk.cell (p := ⟨Rt, 1, none⟩) ltt).trans cc9, hk⟩))
              (first
                | (go_at_call 63; go_split_ands; (first | with_reducible refine (H21.out _ _ _ (ff2.below (by assumption)) (ff1.below (by assumption))).mono ?_ | with_reducible refine (HO.out.cst (fs.below (by assumption)) (ft.below (by assumption))).mono ?_ | with_reducible refine (HO.out.c11 (ff1.below (by assumption)) (ff1.below (by assumption))).mono ?_); rintro e wq ⟨rfl, bb⟩)
                | (go_at_call 47; go_split_ands; (first | with_reducible refine (HO.out.s1 (ff1.below (by assumption))).mono ?_ | with_reducible refine (HO.out.s2 (ff2.below (by assumption))).mono ?_); rintro e wq ⟨rfl, bb⟩)
                | (go_at_call 31; go_split_ands; refine (awake_any _).mono ?_; rintro e wq ⟨rfl, bb⟩))
            go_split_ands
            have hC := nextB hB (by assumption)
            go_wp2
            go_ret
            exact ⟨rfl, hC⟩
          · clear hle hge
            have hd3 : decide (y ≤ 0) = false := decide_eq_false (by omega)
            have H21 := Lib.hid (fun w_ f_ g_ (h1 : IsF w_ f_ p2 q2) (h2 : IsF w_ g_ p1 q1) => (show Calls Try.prog 63 #[f_, g_] w_ (RetI w_ (1)) from HO.out.c21 h1 h2))
            have hwa : wrap64 (1) = 1 := by unfold wrap64; omega
            have hwd : IntKind.i64.wrap (1) = 1 := IntWalk.i64_in _ (by omega)
            have hwb : wrap64 (- -1) = 1 := by unfold wrap64; omega
            have hwc : IntKind.i64.wrap (- -1) = 1 := IntWalk.i64_in _ (by omega)
            have htx : (t1.toList == t2.toList) = false := HO.out.tx
            obtain ⟨b, kt⟩ := prof w10 (.slice aot qt capt) (.slice aot2 qt2 capt2)
            obtain ⟨Rt, hRt⟩ : ∃ R, R = w10.heap.size := ⟨_, rfl⟩
            have hlet : w.heap.size ≤ Rt := by rw [hRt]; exact hB.size
            have cc0 := (kf1.below b).cell0
            have cc1 := (kf1.below b).cell1
            have cc2 := (kf2.below b).cell0
            have cc3 := (kf2.below b).cell1
            have cc4 := (kf3.below b).cell0
            have cc5 := (kf3.below b).cell1
            have cc6 := (ks.below b).cell0
            have cc7 := (ks.below b).cell1
            have cc8 := kt.cell0
            have cc9 := kt.cell1
            go_wp2_with fail
            obtain ⟨w11, hw⟩ : ∃ w_ : World, w_ = (w10.alloc (.cells #[.slice aot qt capt, .slice aot2 qt2 capt2] 50)) := ⟨_, rfl⟩
            rw [← hw] at b kt ⊢
            rw [← hRt] at kt ⊢
            clear hw hRt cc0 cc1 cc2 cc3 cc4 cc5 cc6 cc7 cc8 cc9
            replace hB := nextB hB b
            replace ff1 := ff1.below b
            replace kf1 := kf1.below b
            replace ff2 := ff2.below b
            replace kf2 := kf2.below b
            replace ff3 := ff3.below b
            replace kf3 := kf3.below b
            replace fs := fs.below b
            replace ks := ks.below b
            replace ft := ft.below b
            clear b
            obtain ⟨wo, hwo⟩ : ∃ wo : World, wo = w11 := ⟨_, rfl⟩
            rw [← hwo] at hB ff1 kf1 ff2 kf2 ff3 kf3 fs ks ft kt ⊢
            clear hwo
            have cc0 := kf1.cell0
            have cc1 := kf1.cell1
            have cc2 := kf2.cell0
            have cc3 := kf2.cell1
            have cc4 := kf3.cell0
            have cc5 := kf3.cell1
            have cc6 := ks.cell0
            have cc7 := ks.cell1
            have cc8 := kt.cell0
            have cc9 := kt.cell1
            have ltf1 := kf1.lt
            have ltf2 := kf2.lt
            have ltf3 := kf3.lt
            have lts := ks.lt
            have ltt := kt.lt
            go_wp2
            go_region_held3 (fun w' => w'.cell? ⟨Rf1, 0, none⟩ = some (.slice aof1 qf1 capf1) ∧ w'.cell? ⟨Rf1, 1, none⟩ = some (.slice aof12 qf12 capf12) ∧ w'.cell? ⟨Rf2, 0, none⟩ = some (.slice aof2 qf2 capf2) ∧ w'.cell? ⟨Rf2, 1, none⟩ = some (.slice aof22 qf22 capf22) ∧ w'.cell? ⟨Rf3, 0, none⟩ = some (.slice aof3 qf3 capf3) ∧ w'.cell? ⟨Rf3, 1, none⟩ = some (.slice aof32 qf32 capf32) ∧ w'.cell? ⟨Rs, 0, none⟩ = some (.slice aos qs caps) ∧ w'.cell? ⟨Rs, 1, none⟩ = some (.slice aos2 qs2 caps2) ∧ w'.cell? ⟨Rt, 0, none⟩ = some (.slice aot qt capt) ∧ w'.cell? ⟨Rt, 1, none⟩ = some (.slice aot2 qt2 capt2) ∧ Below wo.heap.size wo w')
              (first
                | exact ⟨cc0, cc1, cc2, cc3, cc4, cc5, cc6, cc7, cc8, cc9, (Below.refl _ _).drew⟩
                | (go_split_ands; exact ⟨by assumption, by assumption, by assumption, by assumption, by assumption, by assumption, by assumption, by assumption, by assumption, by assumption, by assumption⟩)
                | (go_split_ands; have hk := nextB (by assumption) bb; exact ⟨(hk.cell (p := ⟨Rf1, 0, none⟩) ltf1).trans cc0, (hk.cell (p := ⟨Rf1, 1, none⟩) ltf1).trans cc1, (hk.cell (p := ⟨Rf2, 0, none⟩) ltf2).trans cc2, (hk.cell (p := ⟨Rf2, 1, none⟩) ltf2).trans cc3, (hk.cell (p := ⟨Rf3, 0, none⟩) ltf3).trans cc4, (hk.cell (p := ⟨Rf3, 1, none⟩) ltf3).trans cc5, (hk.cell (p := ⟨Rs, 0, none⟩) lts).trans cc6, (hk.cell (p := ⟨Rs, 1, none⟩) lts).trans cc7, (hk.cell (p := ⟨Rt, 0, none⟩) ltt).trans cc8, (hk.cell (p := ⟨Rt, 1, none⟩) ltt).trans cc9, hk⟩))
              (first
                | (go_at_call 63; go_split_ands; (first | with_reducible refine (H21.out _ _ _ (ff2.below (by assumption)) (ff1.below (by assumption))).mono ?_ | with_reducible refine (HO.out.cst (fs.below (by assumption)) (ft.below (by assumption))).mono ?_ | with_reducible refine (HO.out.c11 (ff1.below (by assumption)) (ff1.below (by assumption))).mono ?_); rintro e wq ⟨rfl, bb⟩)
                | (go_at_call 47; go_split_ands; (first | with_reducible refine (HO.out.s1 (ff1.below (by assumption))).mono ?_ | with_reducible refine (HO.out.s2 (ff2.below (by assumption))).mono ?_); rintro e wq ⟨rfl, bb⟩)
                | (go_at_call 31; go_split_ands; refine (awake_any _).mono ?_; rintro e wq ⟨rfl, bb⟩))
            go_split_ands
            have hC := nextB hB (by assumption)
            go_wp2
            go_ret
            exact ⟨rfl, hC⟩
        · rcases Int.lt_trichotomy y 0 with hy | hy | hy
          · have hz := hle (by omega) (by omega)
            clear hle hge
            have hd4 : decide (y ≤ 0) = true := decide_eq_true (by omega)
            have hd5 : decide (0 < z) = false := decide_eq_false (by omega)
            have hd6 : decide (0 ≤ y) = false := decide_eq_false (by omega)
            have H21 := Lib.hid (fun w_ f_ g_ (h1 : IsF w_ f_ p2 q2) (h2 : IsF w_ g_ p1 q1) => (show Calls Try.prog 63 #[f_, g_] w_ (RetI w_ (0)) from HO.out.c21 h1 h2))
            have hwa : wrap64 (0) = 0 := by unfold wrap64; omega
            have hwd : IntKind.i64.wrap (0) = 0 := IntWalk.i64_in _ (by omega)
            have hwb : wrap64 (- 0) = 0 := by unfold wrap64; omega
            have hwc : IntKind.i64.wrap (- 0) = 0 := IntWalk.i64_in _ (by omega)
            obtain rfl := toList_inj (eq_of_beq (show (t1.toList == t2.toList) = true from HO.out.tx))
            obtain ⟨b, kt⟩ := prof w10 (.slice aot qt capt) (.slice aot2 qt2 capt2)
            obtain ⟨Rt, hRt⟩ : ∃ R, R = w10.heap.size := ⟨_, rfl⟩
            have hlet : w.heap.size ≤ Rt := by rw [hRt]; exact hB.size
            have cc0 := (kf1.below b).cell0
            have cc1 := (kf1.below b).cell1
            have cc2 := (kf2.below b).cell0
            have cc3 := (kf2.below b).cell1
            have cc4 := (kf3.below b).cell0
            have cc5 := (kf3.below b).cell1
            have cc6 := (ks.below b).cell0
            have cc7 := (ks.below b).cell1
            have cc8 := kt.cell0
            have cc9 := kt.cell1
            go_wp2_with fail
            obtain ⟨w11, hw⟩ : ∃ w_ : World, w_ = (w10.alloc (.cells #[.slice aot qt capt, .slice aot2 qt2 capt2] 50)) := ⟨_, rfl⟩
            rw [← hw] at b kt ⊢
            rw [← hRt] at kt ⊢
            clear hw hRt cc0 cc1 cc2 cc3 cc4 cc5 cc6 cc7 cc8 cc9
            replace hB := nextB hB b
            replace ff1 := ff1.below b
            replace kf1 := kf1.below b
            replace ff2 := ff2.below b
            replace kf2 := kf2.below b
            replace ff3 := ff3.below b
            replace kf3 := kf3.below b
            replace fs := fs.below b
            replace ks := ks.below b
            replace ft := ft.below b
            clear b
            obtain ⟨wo, hwo⟩ : ∃ wo : World, wo = w11 := ⟨_, rfl⟩
            rw [← hwo] at hB ff1 kf1 ff2 kf2 ff3 kf3 fs ks ft kt ⊢
            clear hwo
            have cc0 := kf1.cell0
            have cc1 := kf1.cell1
            have cc2 := kf2.cell0
            have cc3 := kf2.cell1
            have cc4 := kf3.cell0
            have cc5 := kf3.cell1
            have cc6 := ks.cell0
            have cc7 := ks.cell1
            have cc8 := kt.cell0
            have cc9 := kt.cell1
            have ltf1 := kf1.lt
            have ltf2 := kf2.lt
            have ltf3 := kf3.lt
            have lts := ks.lt
            have ltt := kt.lt
            go_wp2
            go_region_held3 (fun w' => w'.cell? ⟨Rf1, 0, none⟩ = some (.slice aof1 qf1 capf1) ∧ w'.cell? ⟨Rf1, 1, none⟩ = some (.slice aof12 qf12 capf12) ∧ w'.cell? ⟨Rf2, 0, none⟩ = some (.slice aof2 qf2 capf2) ∧ w'.cell? ⟨Rf2, 1, none⟩ = some (.slice aof22 qf22 capf22) ∧ w'.cell? ⟨Rf3, 0, none⟩ = some (.slice aof3 qf3 capf3) ∧ w'.cell? ⟨Rf3, 1, none⟩ = some (.slice aof32 qf32 capf32) ∧ w'.cell? ⟨Rs, 0, none⟩ = some (.slice aos qs caps) ∧ w'.cell? ⟨Rs, 1, none⟩ = some (.slice aos2 qs2 caps2) ∧ w'.cell? ⟨Rt, 0, none⟩ = some (.slice aot qt capt) ∧ w'.cell? ⟨Rt, 1, none⟩ = some (.slice aot2 qt2 capt2) ∧ Below wo.heap.size wo w')
              (first
                | exact ⟨cc0, cc1, cc2, cc3, cc4, cc5, cc6, cc7, cc8, cc9, (Below.refl _ _).drew⟩
                | (go_split_ands; exact ⟨by assumption, by assumption, by assumption, by assumption, by assumption, by assumption, by assumption, by assumption, by assumption, by assumption, by assumption⟩)
                | (go_split_ands; have hk := nextB (by assumption) bb; exact ⟨(hk.cell (p := ⟨Rf1, 0, none⟩) ltf1).trans cc0, (hk.cell (p := ⟨Rf1, 1, none⟩) ltf1).trans cc1, (hk.cell (p := ⟨Rf2, 0, none⟩) ltf2).trans cc2, (hk.cell (p := ⟨Rf2, 1, none⟩) ltf2).trans cc3, (hk.cell (p := ⟨Rf3, 0, none⟩) ltf3).trans cc4, (hk.cell (p := ⟨Rf3, 1, none⟩) ltf3).trans cc5, (hk.cell (p := ⟨Rs, 0, none⟩) lts).trans cc6, (hk.cell (p := ⟨Rs, 1, none⟩) lts).trans cc7, (hk.cell (p := ⟨Rt, 0, none⟩) ltt).trans cc8, (hk.cell (p := ⟨Rt, 1, none⟩) ltt).trans cc9, hk⟩))
              (first
                | (go_at_call 63; go_split_ands; (first | with_reducible refine (H21.out _ _ _ (ff2.below (by assumption)) (ff1.below (by assumption))).mono ?_ | with_reducible refine (HO.out.cst (fs.below (by assumption)) (ft.below (by assumption))).mono ?_ | with_reducible refine (HO.out.c11 (ff1.below (by assumption)) (ff1.below (by assumption))).mono ?_); rintro e wq ⟨rfl, bb⟩)
                | (go_at_call 47; go_split_ands; (first | with_reducible refine (HO.out.s1 (ff1.below (by assumption))).mono ?_ | with_reducible refine (HO.out.s2 (ff2.below (by assumption))).mono ?_); rintro e wq ⟨rfl, bb⟩)
                | (go_at_call 31; go_split_ands; refine (awake_any _).mono ?_; rintro e wq ⟨rfl, bb⟩))
            go_split_ands
            have hC := nextB hB (by assumption)
            go_wp2
            go_ret
            exact ⟨rfl, hC⟩
          · subst hy
            have hz := hle (by omega) (by omega)
            have hz2 := hge (by omega) (by omega)
            obtain rfl : z = 0 := by omega
            clear hle hge hz hz2
            have H21 := Lib.hid (fun w_ f_ g_ (h1 : IsF w_ f_ p2 q2) (h2 : IsF w_ g_ p1 q1) => (show Calls Try.prog 63 #[f_, g_] w_ (RetI w_ (0)) from HO.out.c21 h1 h2))
            have hwa : wrap64 (0) = 0 := by unfold wrap64; omega
            have hwd : IntKind.i64.wrap (0) = 0 := IntWalk.i64_in _ (by omega)
            have hwb : wrap64 (- 0) = 0 := by unfold wrap64; omega
            have hwc : IntKind.i64.wrap (- 0) = 0 := IntWalk.i64_in _ (by omega)
            obtain rfl := toList_inj (eq_of_beq (show (t1.toList == t2.toList) = true from HO.out.tx))
            obtain ⟨b, kt⟩ := prof w10 (.slice aot qt capt) (.slice aot2 qt2 capt2)
            obtain ⟨Rt, hRt⟩ : ∃ R, R = w10.heap.size := ⟨_, rfl⟩
            have hlet : w.heap.size ≤ Rt := by rw [hRt]; exact hB.size
            have cc0 := (kf1.below b).cell0
            have cc1 := (kf1.below b).cell1
            have cc2 := (kf2.below b).cell0
            have cc3 := (kf2.below b).cell1
            have cc4 := (kf3.below b).cell0
            have cc5 := (kf3.below b).cell1
            have cc6 := (ks.below b).cell0
            have cc7 := (ks.below b).cell1
            have cc8 := kt.cell0
            have cc9 := kt.cell1
            go_wp2_with fail
            obtain ⟨w11, hw⟩ : ∃ w_ : World, w_ = (w10.alloc (.cells #[.slice aot qt capt, .slice aot2 qt2 capt2] 50)) := ⟨_, rfl⟩
            rw [← hw] at b kt ⊢
            rw [← hRt] at kt ⊢
            clear hw hRt cc0 cc1 cc2 cc3 cc4 cc5 cc6 cc7 cc8 cc9
            replace hB := nextB hB b
            replace ff1 := ff1.below b
            replace kf1 := kf1.below b
            replace ff2 := ff2.below b
            replace kf2 := kf2.below b
            replace ff3 := ff3.below b
            replace kf3 := kf3.below b
            replace fs := fs.below b
            replace ks := ks.below b
            replace ft := ft.below b
            clear b
            obtain ⟨wo, hwo⟩ : ∃ wo : World, wo = w11 := ⟨_, rfl⟩
            rw [← hwo] at hB ff1 kf1 ff2 kf2 ff3 kf3 fs ks ft kt ⊢
            clear hwo
            have cc0 := kf1.cell0
            have cc1 := kf1.cell1
            have cc2 := kf2.cell0
            have cc3 := kf2.cell1
            have cc4 := kf3.cell0
            have cc5 := kf3.cell1
            have cc6 := ks.cell0
            have cc7 := ks.cell1
            have cc8 := kt.cell0
            have cc9 := kt.cell1
            have ltf1 := kf1.lt
            have ltf2 := kf2.lt
            have ltf3 := kf3.lt
            have lts := ks.lt
            have ltt := kt.lt
            go_wp2
            go_region_held3 (fun w' => w'.cell? ⟨Rf1, 0, none⟩ = some (.slice aof1 qf1 capf1) ∧ w'.cell? ⟨Rf1, 1, none⟩ = some (.slice aof12 qf12 capf12) ∧ w'.cell? ⟨Rf2, 0, none⟩ = some (.slice aof2 qf2 capf2) ∧ w'.cell? ⟨Rf2, 1, none⟩ = some (.slice aof22 qf22 capf22) ∧ w'.cell? ⟨Rf3, 0, none⟩ = some (.slice aof3 qf3 capf3) ∧ w'.cell? ⟨Rf3, 1, none⟩ = some (.slice aof32 qf32 capf32) ∧ w'.cell? ⟨Rs, 0, none⟩ = some (.slice aos qs caps) ∧ w'.cell? ⟨Rs, 1, none⟩ = some (.slice aos2 qs2 caps2) ∧ w'.cell? ⟨Rt, 0, none⟩ = some (.slice aot qt capt) ∧ w'.cell? ⟨Rt, 1, none⟩ = some (.slice aot2 qt2 capt2) ∧ Below wo.heap.size wo w')
              (first
                | exact ⟨cc0, cc1, cc2, cc3, cc4, cc5, cc6, cc7, cc8, cc9, (Below.refl _ _).drew⟩
                | (go_split_ands; exact ⟨by assumption, by assumption, by assumption, by assumption, by assumption, by assumption, by assumption, by assumption, by assumption, by assumption, by assumption⟩)
                | (go_split_ands; have hk := nextB (by assumption) bb; exact ⟨(hk.cell (p := ⟨Rf1, 0, none⟩) ltf1).trans cc0, (hk.cell (p := ⟨Rf1, 1, none⟩) ltf1).trans cc1, (hk.cell (p := ⟨Rf2, 0, none⟩) ltf2).trans cc2, (hk.cell (p := ⟨Rf2, 1, none⟩) ltf2).trans cc3, (hk.cell (p := ⟨Rf3, 0, none⟩) ltf3).trans cc4, (hk.cell (p := ⟨Rf3, 1, none⟩) ltf3).trans cc5, (hk.cell (p := ⟨Rs, 0, none⟩) lts).trans cc6, (hk.cell (p := ⟨Rs, 1, none⟩) lts).trans cc7, (hk.cell (p := ⟨Rt, 0, none⟩) ltt).trans cc8, (hk.cell (p := ⟨Rt, 1, none⟩) ltt).trans cc9, hk⟩))
              (first
                | (go_at_call 63; go_split_ands; (first | with_reducible refine (H21.out _ _ _ (ff2.below (by assumption)) (ff1.below (by assumption))).mono ?_ | with_reducible refine (HO.out.cst (fs.below (by assumption)) (ft.below (by assumption))).mono ?_ | with_reducible refine (HO.out.c11 (ff1.below (by assumption)) (ff1.below (by assumption))).mono ?_); rintro e wq ⟨rfl, bb⟩)
                | (go_at_call 47; go_split_ands; (first | with_reducible refine (HO.out.s1 (ff1.below (by assumption))).mono ?_ | with_reducible refine (HO.out.s2 (ff2.below (by assumption))).mono ?_); rintro e wq ⟨rfl, bb⟩)
                | (go_at_call 31; go_split_ands; refine (awake_any _).mono ?_; rintro e wq ⟨rfl, bb⟩))
            go_split_ands
            have hC := nextB hB (by assumption)
            go_wp2
            go_ret
            exact ⟨rfl, hC⟩
          · have hz := hge (by omega) (by omega)
            clear hle hge
            have hd7 : decide (y ≤ 0) = false := decide_eq_false (by omega)
            have hd8 : decide (0 ≤ y) = true := decide_eq_true (by omega)
            have hd9 : decide (z < 0) = false := decide_eq_false (by omega)
            have H21 := Lib.hid (fun w_ f_ g_ (h1 : IsF w_ f_ p2 q2) (h2 : IsF w_ g_ p1 q1) => (show Calls Try.prog 63 #[f_, g_] w_ (RetI w_ (0)) from HO.out.c21 h1 h2))
            have hwa : wrap64 (0) = 0 := by unfold wrap64; omega
            have hwd : IntKind.i64.wrap (0) = 0 := IntWalk.i64_in _ (by omega)
            have hwb : wrap64 (- 0) = 0 := by unfold wrap64; omega
            have hwc : IntKind.i64.wrap (- 0) = 0 := IntWalk.i64_in _ (by omega)
            obtain rfl := toList_inj (eq_of_beq (show (t1.toList == t2.toList) = true from HO.out.tx))
            obtain ⟨b, kt⟩ := prof w10 (.slice aot qt capt) (.slice aot2 qt2 capt2)
            obtain ⟨Rt, hRt⟩ : ∃ R, R = w10.heap.size := ⟨_, rfl⟩
            have hlet : w.heap.size ≤ Rt := by rw [hRt]; exact hB.size
            have cc0 := (kf1.below b).cell0
            have cc1 := (kf1.below b).cell1
            have cc2 := (kf2.below b).cell0
            have cc3 := (kf2.below b).cell1
            have cc4 := (kf3.below b).cell0
            have cc5 := (kf3.below b).cell1
            have cc6 := (ks.below b).cell0
            have cc7 := (ks.below b).cell1
            have cc8 := kt.cell0
            have cc9 := kt.cell1
            go_wp2_with fail
            obtain ⟨w11, hw⟩ : ∃ w_ : World, w_ = (w10.alloc (.cells #[.slice aot qt capt, .slice aot2 qt2 capt2] 50)) := ⟨_, rfl⟩
            rw [← hw] at b kt ⊢
            rw [← hRt] at kt ⊢
            clear hw hRt cc0 cc1 cc2 cc3 cc4 cc5 cc6 cc7 cc8 cc9
            replace hB := nextB hB b
            replace ff1 := ff1.below b
            replace kf1 := kf1.below b
            replace ff2 := ff2.below b
            replace kf2 := kf2.below b
            replace ff3 := ff3.below b
            replace kf3 := kf3.below b
            replace fs := fs.below b
            replace ks := ks.below b
            replace ft := ft.below b
            clear b
            obtain ⟨wo, hwo⟩ : ∃ wo : World, wo = w11 := ⟨_, rfl⟩
            rw [← hwo] at hB ff1 kf1 ff2 kf2 ff3 kf3 fs ks ft kt ⊢
            clear hwo
            have cc0 := kf1.cell0
            have cc1 := kf1.cell1
            have cc2 := kf2.cell0
            have cc3 := kf2.cell1
            have cc4 := kf3.cell0
            have cc5 := kf3.cell1
            have cc6 := ks.cell0
            have cc7 := ks.cell1
            have cc8 := kt.cell0
            have cc9 := kt.cell1
            have ltf1 := kf1.lt
            have ltf2 := kf2.lt
            have ltf3 := kf3.lt
            have lts := ks.lt
            have ltt := kt.lt
            go_wp2
            go_region_held3 (fun w' => w'.cell? ⟨Rf1, 0, none⟩ = some (.slice aof1 qf1 capf1) ∧ w'.cell? ⟨Rf1, 1, none⟩ = some (.slice aof12 qf12 capf12) ∧ w'.cell? ⟨Rf2, 0, none⟩ = some (.slice aof2 qf2 capf2) ∧ w'.cell? ⟨Rf2, 1, none⟩ = some (.slice aof22 qf22 capf22) ∧ w'.cell? ⟨Rf3, 0, none⟩ = some (.slice aof3 qf3 capf3) ∧ w'.cell? ⟨Rf3, 1, none⟩ = some (.slice aof32 qf32 capf32) ∧ w'.cell? ⟨Rs, 0, none⟩ = some (.slice aos qs caps) ∧ w'.cell? ⟨Rs, 1, none⟩ = some (.slice aos2 qs2 caps2) ∧ w'.cell? ⟨Rt, 0, none⟩ = some (.slice aot qt capt) ∧ w'.cell? ⟨Rt, 1, none⟩ = some (.slice aot2 qt2 capt2) ∧ Below wo.heap.size wo w')
              (first
                | exact ⟨cc0, cc1, cc2, cc3, cc4, cc5, cc6, cc7, cc8, cc9, (Below.refl _ _).drew⟩
                | (go_split_ands; exact ⟨by assumption, by assumption, by assumption, by assumption, by assumption, by assumption, by assumption, by assumption, by assumption, by assumption, by assumption⟩)
                | (go_split_ands; have hk := nextB (by assumption) bb; exact ⟨(hk.cell (p := ⟨Rf1, 0, none⟩) ltf1).trans cc0, (hk.cell (p := ⟨Rf1, 1, none⟩) ltf1).trans cc1, (hk.cell (p := ⟨Rf2, 0, none⟩) ltf2).trans cc2, (hk.cell (p := ⟨Rf2, 1, none⟩) ltf2).trans cc3, (hk.cell (p := ⟨Rf3, 0, none⟩) ltf3).trans cc4, (hk.cell (p := ⟨Rf3, 1, none⟩) ltf3).trans cc5, (hk.cell (p := ⟨Rs, 0, none⟩) lts).trans cc6, (hk.cell (p := ⟨Rs, 1, none⟩) lts).trans cc7, (hk.cell (p := ⟨Rt, 0, none⟩) ltt).trans cc8, (hk.cell (p := ⟨Rt, 1, none⟩) ltt).trans cc9, hk⟩))
              (first
                | (go_at_call 63; go_split_ands; (first | with_reducible refine (H21.out _ _ _ (ff2.below (by assumption)) (ff1.below (by assumption))).mono ?_ | with_reducible refine (HO.out.cst (fs.below (by assumption)) (ft.below (by assumption))).mono ?_ | with_reducible refine (HO.out.c11 (ff1.below (by assumption)) (ff1.below (by assumption))).mono ?_); rintro e wq ⟨rfl, bb⟩)
                | (go_at_call 47; go_split_ands; (first | with_reducible refine (HO.out.s1 (ff1.below (by assumption))).mono ?_ | with_reducible refine (HO.out.s2 (ff2.below (by assumption))).mono ?_); rintro e wq ⟨rfl, bb⟩)
                | (go_at_call 31; go_split_ands; refine (awake_any _).mono ?_; rintro e wq ⟨rfl, bb⟩))
            go_split_ands
            have hC := nextB hB (by assumption)
            go_wp2
            go_ret
            exact ⟨rfl, hC⟩
        · by_cases hy : 0 ≤ y
          · have hz := hge (by omega) hy
            clear hle hge
            have hd10 : decide (0 ≤ y) = true := decide_eq_true (by omega)
            have hd11 : decide (z < 0) = false := decide_eq_false (by omega)
            have H21 := Lib.hid (fun w_ f_ g_ (h1 : IsF w_ f_ p2 q2) (h2 : IsF w_ g_ p1 q1) => (show Calls Try.prog 63 #[f_, g_] w_ (RetI w_ (-1)) from HO.out.c21 h1 h2))
            have hwa : wrap64 (-1) = -1 := by unfold wrap64; omega
            have hwd : IntKind.i64.wrap (-1) = -1 := IntWalk.i64_in _ (by omega)
            have hwb : wrap64 (- 1) = -1 := by unfold wrap64; omega
            have hwc : IntKind.i64.wrap (- 1) = -1 := IntWalk.i64_in _ (by omega)
            have htx : (t1.toList == t2.toList) = false := HO.out.tx
            obtain ⟨b, kt⟩ := prof w10 (.slice aot qt capt) (.slice aot2 qt2 capt2)
            obtain ⟨Rt, hRt⟩ : ∃ R, R = w10.heap.size := ⟨_, rfl⟩
            have hlet : w.heap.size ≤ Rt := by rw [hRt]; exact hB.size
            have cc0 := (kf1.below b).cell0
            have cc1 := (kf1.below b).cell1
            have cc2 := (kf2.below b).cell0
            have cc3 := (kf2.below b).cell1
            have cc4 := (kf3.below b).cell0
            have cc5 := (kf3.below b).cell1
            have cc6 := (ks.below b).cell0
            have cc7 := (ks.below b).cell1
            have cc8 := kt.cell0
            have cc9 := kt.cell1
            go_wp2_with fail
            obtain ⟨w11, hw⟩ : ∃ w_ : World, w_ = (w10.alloc (.cells #[.slice aot qt capt, .slice aot2 qt2 capt2] 50)) := ⟨_, rfl⟩
            rw [← hw] at b kt ⊢
            rw [← hRt] at kt ⊢
            clear hw hRt cc0 cc1 cc2 cc3 cc4 cc5 cc6 cc7 cc8 cc9
            replace hB := nextB hB b
            replace ff1 := ff1.below b
            replace kf1 := kf1.below b
            replace ff2 := ff2.below b
            replace kf2 := kf2.below b
            replace ff3 := ff3.below b
            replace kf3 := kf3.below b
            replace fs := fs.below b
            replace ks := ks.below b
            replace ft := ft.below b
            clear b
            obtain ⟨wo, hwo⟩ : ∃ wo : World, wo = w11 := ⟨_, rfl⟩
            rw [← hwo] at hB ff1 kf1 ff2 kf2 ff3 kf3 fs ks ft kt ⊢
            clear hwo
            have cc0 := kf1.cell0
            have cc1 := kf1.cell1
            have cc2 := kf2.cell0
            have cc3 := kf2.cell1
            have cc4 := kf3.cell0
            have cc5 := kf3.cell1
            have cc6 := ks.cell0
            have cc7 := ks.cell1
            have cc8 := kt.cell0
            have cc9 := kt.cell1
            have ltf1 := kf1.lt
            have ltf2 := kf2.lt
            have ltf3 := kf3.lt
            have lts := ks.lt
            have ltt := kt.lt
            go_wp2
            go_region_held3 (fun w' => w'.cell? ⟨Rf1, 0, none⟩ = some (.slice aof1 qf1 capf1) ∧ w'.cell? ⟨Rf1, 1, none⟩ = some (.slice aof12 qf12 capf12) ∧ w'.cell? ⟨Rf2, 0, none⟩ = some (.slice aof2 qf2 capf2) ∧ w'.cell? ⟨Rf2, 1, none⟩ = some (.slice aof22 qf22 capf22) ∧ w'.cell? ⟨Rf3, 0, none⟩ = some (.slice aof3 qf3 capf3) ∧ w'.cell? ⟨Rf3, 1, none⟩ = some (.slice aof32 qf32 capf32) ∧ w'.cell? ⟨Rs, 0, none⟩ = some (.slice aos qs caps) ∧ w'.cell? ⟨Rs, 1, none⟩ = some (.slice aos2 qs2 caps2) ∧ w'.cell? ⟨Rt, 0, none⟩ = some (.slice aot qt capt) ∧ w'.cell? ⟨Rt, 1, none⟩ = some (.slice aot2 qt2 capt2) ∧ Below wo.heap.size wo w')
              (first
                | exact ⟨cc0, cc1, cc2, cc3, cc4, cc5, cc6, cc7, cc8, cc9, (Below.refl _ _).drew⟩
                | (go_split_ands; exact ⟨by assumption, by assumption, by assumption, by assumption, by assumption, by assumption, by assumption, by assumption, by assumption, by assumption, by assumption⟩)
                | (go_split_ands; have hk := nextB (by assumption) bb; exact ⟨(hk.cell (p := ⟨Rf1, 0, none⟩) ltf1).trans cc0, (hk.cell (p := ⟨Rf1, 1, none⟩) ltf1).trans cc1, (hk.cell (p := ⟨Rf2, 0, none⟩) ltf2).trans cc2, (hk.cell (p := ⟨Rf2, 1, none⟩) ltf2).trans cc3, (hk.cell (p := ⟨Rf3, 0, none⟩) ltf3).trans cc4, (hk.cell (p := ⟨Rf3, 1, none⟩) ltf3).trans cc5, (hk.cell (p := ⟨Rs, 0, none⟩) lts).trans cc6, (hk.cell (p := ⟨Rs, 1, none⟩) lts).trans cc7, (hk.cell (p := ⟨Rt, 0, none⟩) ltt).trans cc8, (hk.cell (p := ⟨Rt, 1, none⟩) ltt).trans cc9, hk⟩))
              (first
                | (go_at_call 63; go_split_ands; (first | with_reducible refine (H21.out _ _ _ (ff2.below (by assumption)) (ff1.below (by assumption))).mono ?_ | with_reducible refine (HO.out.cst (fs.below (by assumption)) (ft.below (by assumption))).mono ?_ | with_reducible refine (HO.out.c11 (ff1.below (by assumption)) (ff1.below (by assumption))).mono ?_); rintro e wq ⟨rfl, bb⟩)
                | (go_at_call 47; go_split_ands; (first | with_reducible refine (HO.out.s1 (ff1.below (by assumption))).mono ?_ | with_reducible refine (HO.out.s2 (ff2.below (by assumption))).mono ?_); rintro e wq ⟨rfl, bb⟩)
                | (go_at_call 31; go_split_ands; refine (awake_any _).mono ?_; rintro e wq ⟨rfl, bb⟩))
            go_split_ands
            have hC := nextB hB (by assumption)
            go_wp2
            go_ret
            exact ⟨rfl, hC⟩
          · clear hle hge
            have hd12 : decide (0 ≤ y) = false := decide_eq_false (by omega)
            have H21 := Lib.hid (fun w_ f_ g_ (h1 : IsF w_ f_ p2 q2) (h2 : IsF w_ g_ p1 q1) => (show Calls Try.prog 63 #[f_, g_] w_ (RetI w_ (-1)) from HO.out.c21 h1 h2))
            have hwa : wrap64 (-1) = -1 := by unfold wrap64; omega
            have hwd : IntKind.i64.wrap (-1) = -1 := IntWalk.i64_in _ (by omega)
            have hwb : wrap64 (- 1) = -1 := by unfold wrap64; omega
            have hwc : IntKind.i64.wrap (- 1) = -1 := IntWalk.i64_in _ (by omega)
            have htx : (t1.toList == t2.toList) = false := HO.out.tx
            obtain ⟨b, kt⟩ := prof w10 (.slice aot qt capt) (.slice aot2 qt2 capt2)
            obtain ⟨Rt, hRt⟩ : ∃ R, R = w10.heap.size := ⟨_, rfl⟩
            have hlet : w.heap.size ≤ Rt := by rw [hRt]; exact hB.size
            have cc0 := (kf1.below b).cell0
            have cc1 := (kf1.below b).cell1
            have cc2 := (kf2.below b).cell0
            have cc3 := (kf2.below b).cell1
            have cc4 := (kf3.below b).cell0
            have cc5 := (kf3.below b).cell1
            have cc6 := (ks.below b).cell0
            have cc7 := (ks.below b).cell1
            have cc8 := kt.cell0
            have cc9 := kt.cell1
            go_wp2_with fail
            obtain ⟨w11, hw⟩ : ∃ w_ : World, w_ = (w10.alloc (.cells #[.slice aot qt capt, .slice aot2 qt2 capt2] 50)) := ⟨_, rfl⟩
            rw [← hw] at b kt ⊢
            rw [← hRt] at kt ⊢
            clear hw hRt cc0 cc1 cc2 cc3 cc4 cc5 cc6 cc7 cc8 cc9
            replace hB := nextB hB b
            replace ff1 := ff1.below b
            replace kf1 := kf1.below b
            replace ff2 := ff2.below b
            replace kf2 := kf2.below b
            replace ff3 := ff3.below b
            replace kf3 := kf3.below b
            replace fs := fs.below b
            replace ks := ks.below b
            replace ft := ft.below b
            clear b
            obtain ⟨wo, hwo⟩ : ∃ wo : World, wo = w11 := ⟨_, rfl⟩
            rw [← hwo] at hB ff1 kf1 ff2 kf2 ff3 kf3 fs ks ft kt ⊢
            clear hwo
            have cc0 := kf1.cell0
            have cc1 := kf1.cell1
            have cc2 := kf2.cell0
            have cc3 := kf2.cell1
            have cc4 := kf3.cell0
            have cc5 := kf3.cell1
            have cc6 := ks.cell0
            have cc7 := ks.cell1
            have cc8 := kt.cell0
            have cc9 := kt.cell1
            have ltf1 := kf1.lt
            have ltf2 := kf2.lt
            have ltf3 := kf3.lt
            have lts := ks.lt
            have ltt := kt.lt
            go_wp2
            go_region_held3 (fun w' => w'.cell? ⟨Rf1, 0, none⟩ = some (.slice aof1 qf1 capf1) ∧ w'.cell? ⟨Rf1, 1, none⟩ = some (.slice aof12 qf12 capf12) ∧ w'.cell? ⟨Rf2, 0, none⟩ = some (.slice aof2 qf2 capf2) ∧ w'.cell? ⟨Rf2, 1, none⟩ = some (.slice aof22 qf22 capf22) ∧ w'.cell? ⟨Rf3, 0, none⟩ = some (.slice aof3 qf3 capf3) ∧ w'.cell? ⟨Rf3, 1, none⟩ = some (.slice aof32 qf32 capf32) ∧ w'.cell? ⟨Rs, 0, none⟩ = some (.slice aos qs caps) ∧ w'.cell? ⟨Rs, 1, none⟩ = some (.slice aos2 qs2 caps2) ∧ w'.cell? ⟨Rt, 0, none⟩ = some (.slice aot qt capt) ∧ w'.cell? ⟨Rt, 1, none⟩ = some (.slice aot2 qt2 capt2) ∧ Below wo.heap.size wo w')
              (first
                | exact ⟨cc0, cc1, cc2, cc3, cc4, cc5, cc6, cc7, cc8, cc9, (Below.refl _ _).drew⟩
                | (go_split_ands; exact ⟨by assumption, by assumption, by assumption, by assumption, by assumption, by assumption, by assumption, by assumption, by assumption, by assumption, by assumption⟩)
                | (go_split_ands; have hk := nextB (by assumption) bb; exact ⟨(hk.cell (p := ⟨Rf1, 0, none⟩) ltf1).trans cc0, (hk.cell (p := ⟨Rf1, 1, none⟩) ltf1).trans cc1, (hk.cell (p := ⟨Rf2, 0, none⟩) ltf2).trans cc2, (hk.cell (p := ⟨Rf2, 1, none⟩) ltf2).trans cc3, (hk.cell (p := ⟨Rf3, 0, none⟩) ltf3).trans cc4, (hk.cell (p := ⟨Rf3, 1, none⟩) ltf3).trans cc5, (hk.cell (p := ⟨Rs, 0, none⟩) lts).trans cc6, (hk.cell (p := ⟨Rs, 1, none⟩) lts).trans cc7, (hk.cell (p := ⟨Rt, 0, none⟩) ltt).trans cc8, (hk.cell (p := ⟨Rt, 1, none⟩) ltt).trans cc9, hk⟩))
              (first
                | (go_at_call 63; go_split_ands; (first | with_reducible refine (H21.out _ _ _ (ff2.below (by assumption)) (ff1.below (by assumption))).mono ?_ | with_reducible refine (HO.out.cst (fs.below (by assumption)) (ft.below (by assumption))).mono ?_ | with_reducible refine (HO.out.c11 (ff1.below (by assumption)) (ff1.below (by assumption))).mono ?_); rintro e wq ⟨rfl, bb⟩)
                | (go_at_call 47; go_split_ands; (first | with_reducible refine (HO.out.s1 (ff1.below (by assumption))).mono ?_ | with_reducible refine (HO.out.s2 (ff2.below (by assumption))).mono ?_); rintro e wq ⟨rfl, bb⟩)
                | (go_at_call 31; go_split_ands; refine (awake_any _).mono ?_; rintro e wq ⟨rfl, bb⟩))
            go_split_ands
            have hC := nextB hB (by assumption)
            go_wp2
            go_ret
            exact ⟨rfl, hC⟩

end Go.Proofs.Ytppbhjhbaknidaa
