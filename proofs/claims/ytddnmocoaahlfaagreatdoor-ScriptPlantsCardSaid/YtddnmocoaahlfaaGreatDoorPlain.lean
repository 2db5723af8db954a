/-
  The language of scripts in plain Lean, with what the laws ask of it. No condition; no program in sight.
-/
import Derived.Lib.ItoaNum
set_option linter.unusedVariables false
namespace Go.Proofs.YtddnmocoaahlfaaGreatDoor

/-- An expression. -/
inductive Ex where
  | num (n : Nat)
  | name (s : List UInt8)
  | neg (k : Nat) (x : Ex)
  | bin (op : UInt8) (a b : Ex)
deriving Repr, DecidableEq

def maxValue : Int := 9007199254740992
def bit (b : Bool) : Int := if b then 1 else 0
/-- A value that is not too great, or the error 101. -/
def small (n : Int) : Except Int Int := if n < -maxValue ∨ n > maxValue then .error 101 else .ok n
/-- What an operator does with two values. -/
def applyOp (op : UInt8) (a b : Int) : Except Int Int :=
  if op = 43 then small (a + b) else if op = 45 then small (a - b)
  else if op = 42 then small (a * b)
  else if op = 47 then (if b = 0 then .error 101 else .ok (a.tdiv b))
  else if op = 37 then (if b = 0 then .error 101 else .ok (a.tmod b))
  else if op = 61 then .ok (bit (a = b)) else if op = 60 then .ok (bit (a < b)) else if op = 62 then .ok (bit (a > b))
  else if op = 38 then .ok (bit (a ≠ 0 ∧ b ≠ 0)) else .ok (bit (a ≠ 0 ∨ b ≠ 0))

/-- The value of an expression where the names have these values. -/
def Ex.eval (σ : List UInt8 → Option Int) : Ex → Except Int Int
  | .num n => .ok n
  | .name s => match σ s with | some v => small v | none => .error 100
  | .neg k x => match x.eval σ with | .ok v => small (if k % 2 = 1 then -v else v) | .error e => .error e
  | .bin op a b =>
    match a.eval σ with
    | .error e => .error e
    | .ok x => match b.eval σ with | .error e => .error e | .ok y => applyOp op x y

abbrev Reads := List UInt8 → Option (Ex × List UInt8)

/-- The longest row of bytes of a kind, and what stands behind it. -/
def taken (p : UInt8 → Bool) (r : List UInt8) : List UInt8 × List UInt8 := (r.takeWhile p, r.dropWhile p)
def isDig (c : UInt8) : Bool := 48 ≤ c && c ≤ 57
def isLet (c : UInt8) : Bool := 97 ≤ c && c ≤ 122
def numOf (l : List UInt8) : Nat := l.foldl (fun n c => 10 * n + (c.toNat - 48)) 0

/-- A numeral, a name, or an expression in parentheses, which 'inner' reads. -/
def primE (inner : Option Reads) : Reads := fun r =>
  match r with
  | [] => none
  | c :: t =>
    if isDig c then
      let d := taken isDig r
      if (c = 48 ∧ d.1.length > 1) ∨ numOf d.1 > 9007199254740992 then none else some (.num (numOf d.1), d.2)
    else if isLet c then
      let d := taken isLet r
      if d.1.length ≤ 16 then some (.name d.1, d.2) else none
    else if c = 40 then
      match inner with
      | none => none
      | some f => match f t with
        | some (x, 41 :: t') => some (x, t')
        | _ => none
    else none

/-- Signs, and what they stand before. -/
def signE (prim : Reads) : Reads := fun r =>
  let d := taken (· == 45) r
  match prim d.2 with
  | none => none
  | some (x, t) => some (if d.1.length = 0 then x else .neg d.1.length x, t)

/-- Operands behind the first one. -/
def moreE (ops : List UInt8) (several : Bool) (sub : Reads) : Nat → Ex → Reads
  | 0, a, r => some (a, r)
  | k + 1, a, r =>
    match r with
    | [] => some (a, r)
    | c :: t =>
      if ops.contains c then
        match sub t with
        | none => none
        | some (b, t') => if several then moreE ops several sub k (.bin c a b) t' else some (.bin c a b, t')
      else some (a, r)

def levelE (ops : List UInt8) (several : Bool) (sub : Reads) : Reads := fun r =>
  match sub r with
  | none => none
  | some (a, t) => moreE ops several sub (t.length + 1) a t

/-- The lines of the grammar: their operators, and whether there may be several. -/
def grammar : List (List UInt8 × Bool) := [([124], true), ([38], true), ([61, 60, 62], false), ([43, 45], true), ([42, 47, 37], true)]

def binaryE (sign : Reads) : List (List UInt8 × Bool) → Reads
  | [] => sign
  | l :: ls => levelE l.1 l.2 (binaryE sign ls)

/-- An expression in which d parentheses may still be opened. -/
def exprE : Nat → Reads
  | 0 => binaryE (signE (primE none)) grammar
  | d + 1 => binaryE (signE (primE (some (exprE d)))) grammar

/-- A whole expression. -/
def parseE (s : List UInt8) : Option Ex :=
  match exprE 16 s with
  | some (x, []) => some x
  | _ => none

/-! The reader consumes; more parentheses change nothing; what stands behind a closing parenthesis is left. -/
def Eats (f : Reads) : Prop := ∀ r x t, f r = some (x, t) → t.length < r.length
def Into (f g : Reads) : Prop := ∀ r x t, f r = some (x, t) → g r = some (x, t)

theorem taken_len (p : UInt8 → Bool) (r : List UInt8) : (taken p r).1.length + (taken p r).2.length = r.length := by
  unfold taken
  rw [← List.length_append, List.takeWhile_append_dropWhile]
theorem taken_pos {p : UInt8 → Bool} {c : UInt8} {r : List UInt8} (h : p c = true) : 1 ≤ (taken p (c :: r)).1.length := by simp [taken, h]

theorem primE_eats {inner : Option Reads} (hi : ∀ f, inner = some f → Eats f) : Eats (primE inner) := by
  intro r x t h
  unfold primE at h
  cases r with
  | nil => simp at h
  | cons c r =>
    simp only at h
    split at h
    · rename_i hc
      have := taken_len isDig (c :: r); have := taken_pos (r := r) hc
      split at h
      · cases h
      · simp only [Option.some.injEq, Prod.mk.injEq] at h
        rw [← h.2]; omega
    · split at h
      · rename_i _ hc
        have := taken_len isLet (c :: r); have := taken_pos (r := r) hc
        split at h
        · simp only [Option.some.injEq, Prod.mk.injEq] at h
          rw [← h.2]; omega
        · cases h
      · split at h
        · split at h
          · cases h
          · rename_i f
            have := hi f rfl
            split at h
            · rename_i y t' hf
              have := this _ _ _ hf
              simp only [Option.some.injEq, Prod.mk.injEq] at h
              rw [← h.2]; simp at this ⊢; omega
            · cases h
        · cases h

theorem signE_eats {f : Reads} (hf : Eats f) : Eats (signE f) := by
  intro r x t h
  unfold signE at h
  simp only at h
  have := taken_len (· == 45) r
  split at h
  · cases h
  · rename_i y t' h'
    have := hf _ _ _ h'
    simp only [Option.some.injEq, Prod.mk.injEq] at h
    rw [← h.2]; omega

theorem moreE_eats {ops : List UInt8} {several : Bool} {sub : Reads} (hs : Eats sub) : ∀ (k : Nat) (a : Ex) (r : List UInt8) (x : Ex) (t : List UInt8), moreE ops several sub k a r = some (x, t) → t.length ≤ r.length := by
  intro k
  induction k with
  | zero => intro a r x t h; simp [moreE] at h; simp [h.2]
  | succ k ih =>
    intro a r x t h
    unfold moreE at h
    cases r with
    | nil => simp at h; simp [h.2]
    | cons c r =>
      simp only at h
      split at h
      · split at h
        · cases h
        · rename_i b t' hb
          have := hs _ _ _ hb
          split at h
          · have := ih _ _ _ _ h; simp; omega
          · simp only [Option.some.injEq, Prod.mk.injEq] at h
            rw [← h.2]; simp; omega
      · simp only [Option.some.injEq, Prod.mk.injEq] at h
        rw [← h.2]; simp

theorem levelE_eats {ops : List UInt8} {several : Bool} {sub : Reads} (hs : Eats sub) : Eats (levelE ops several sub) := by
  intro r x t h
  unfold levelE at h
  split at h
  · cases h
  · rename_i a t' ha
    have := hs _ _ _ ha; have := moreE_eats hs _ _ _ _ _ h; omega

theorem binaryE_eats {sign : Reads} (hs : Eats sign) : ∀ l, Eats (binaryE sign l)
  | [] => hs
  | _ :: ls => levelE_eats (binaryE_eats hs ls)

theorem exprE_eats : ∀ d, Eats (exprE d)
  | 0 => binaryE_eats (signE_eats (primE_eats (by intro f h; cases h))) _
  | d + 1 => binaryE_eats (signE_eats (primE_eats (by intro f h; injection h with h; exact h ▸ exprE_eats d))) _

/-- Rounds enough are enough. -/
theorem moreE_fuel {ops : List UInt8} {several : Bool} {sub : Reads} (hs : Eats sub) : ∀ (k k' : Nat) (a : Ex) (r : List UInt8), r.length < k → r.length < k' → moreE ops several sub k a r = moreE ops several sub k' a r := by
  intro k
  induction k with
  | zero => intro k' a r h; omega
  | succ k ih =>
    intro k' a r h h'
    cases k' with
    | zero => omega
    | succ k' =>
      unfold moreE
      cases r with
      | nil => rfl
      | cons c r =>
        simp only
        split
        · cases hb : sub r with
          | none => rfl
          | some bt =>
            obtain ⟨b, t⟩ := bt
            have := hs _ _ _ hb
            simp only [List.length_cons] at h h'
            simp only
            split
            · exact ih k' _ _ (by omega) (by omega)
            · rfl
        · rfl

theorem moreE_into {ops : List UInt8} {several : Bool} {f g : Reads} (h : Into f g) : ∀ (k : Nat) (a : Ex) (r : List UInt8) (x : Ex) (t : List UInt8), moreE ops several f k a r = some (x, t) → moreE ops several g k a r = some (x, t) := by
  intro k
  induction k with
  | zero => intro a r x t hm; exact hm
  | succ k ih =>
    intro a r x t hm
    unfold moreE at hm ⊢
    cases r with
    | nil => exact hm
    | cons c r =>
      simp only at hm ⊢
      split at hm
      · rename_i hc
        rw [if_pos hc]
        split at hm
        · cases hm
        · rename_i b t' hb
          rw [h _ _ _ hb]
          simp only
          split at hm
          · rename_i hsv; rw [if_pos hsv]; exact ih _ _ _ _ hm
          · rename_i hsv; rw [if_neg hsv]; exact hm
      · rename_i hc
        rw [if_neg hc]; exact hm
theorem levelE_into {ops : List UInt8} {several : Bool} {f g : Reads} (h : Into f g) : Into (levelE ops several f) (levelE ops several g) := by
  intro r x t hm
  unfold levelE at hm ⊢
  split at hm
  · cases hm
  · rename_i a t' ha
    rw [h _ _ _ ha]; exact moreE_into h _ _ _ _ _ hm
theorem binaryE_into {f g : Reads} (h : Into f g) : ∀ l, Into (binaryE f l) (binaryE g l)
  | [] => h
  | _ :: ls => levelE_into (binaryE_into h ls)
theorem signE_into {f g : Reads} (h : Into f g) : Into (signE f) (signE g) := by
  intro r x t hm
  unfold signE at hm ⊢
  simp only at hm ⊢
  split at hm
  · cases hm
  · rename_i y t' h'
    rw [h _ _ _ h']; exact hm
theorem primE_into {f g : Option Reads} (h : ∀ p, f = some p → ∃ q, g = some q ∧ Into p q) : Into (primE f) (primE g) := by
  intro r x t hm
  unfold primE at hm ⊢
  cases r with
  | nil => exact hm
  | cons c r =>
    simp only at hm ⊢
    split at hm
    · rename_i hc; rw [if_pos hc]; exact hm
    · rename_i hc; rw [if_neg hc]
      split at hm
      · rename_i hl; rw [if_pos hl]; exact hm
      · rename_i hl; rw [if_neg hl]
        split at hm
        · rename_i hp; rw [if_pos hp]
          cases f with
          | none => simp at hm
          | some p =>
            obtain ⟨q, rfl, hpq⟩ := h p rfl
            simp only at hm ⊢
            split at hm
            · rename_i y t' hy
              rw [hpq _ _ _ hy]; exact hm
            · cases hm
        · cases hm
theorem exprE_into : ∀ d, Into (exprE d) (exprE (d + 1))
  | 0 => binaryE_into (signE_into (primE_into (by intro p h; cases h))) _
  | d + 1 => binaryE_into (signE_into (primE_into (by intro p h; injection h with h; exact ⟨_, rfl, h ▸ exprE_into d⟩))) _

/-- What may stand behind: nothing, or a closing parenthesis first. -/
def Shut (u : List UInt8) : Prop := u = [] ∨ ∃ v, u = 41 :: v
def Ext (f : Reads) : Prop := ∀ r x t u, (t ≠ [] ∨ Shut u) → f r = some (x, t) → f (r ++ u) = some (x, t ++ u)

theorem taken_ext {p : UInt8 → Bool} (h41 : p 41 = false) (r u : List UInt8) (hu : (taken p r).2 ≠ [] ∨ Shut u) : taken p (r ++ u) = ((taken p r).1, (taken p r).2 ++ u) := by
  unfold taken at *
  induction r with
  | nil =>
    rcases hu with hu | rfl | ⟨v, rfl⟩
    · simp at hu
    · simp
    · simp [h41]
  | cons c r ih =>
    simp only [List.cons_append, List.takeWhile_cons, List.dropWhile_cons] at *
    simp only [Prod.mk.injEq] at ih ⊢
    cases hc : p c
    · simp
    · have := ih (by simpa [hc] using hu)
      simp [this.1, this.2]

theorem primE_ext {inner : Option Reads} (hi : ∀ f, inner = some f → Ext f) : Ext (primE inner) := by
  intro r x t u hu h
  unfold primE at h ⊢
  cases r with
  | nil => simp at h
  | cons c r =>
    simp only [List.cons_append] at h ⊢
    have e1 := taken_ext (p := isDig) (by decide) (c :: r) u
    have e2 := taken_ext (p := isLet) (by decide) (c :: r) u
    simp only [List.cons_append] at e1 e2
    split at h
    · rename_i hc; rw [if_pos hc]
      split at h
      · cases h
      · rename_i hn
        simp only [Option.some.injEq, Prod.mk.injEq] at h
        rw [e1 (by rw [h.2]; exact hu), if_neg hn]
        simp only [Option.some.injEq, Prod.mk.injEq]
        exact ⟨h.1, by rw [h.2]⟩
    · rename_i hc; rw [if_neg hc]
      split at h
      · rename_i hl; rw [if_pos hl]
        split at h
        · rename_i hn
          simp only [Option.some.injEq, Prod.mk.injEq] at h
          rw [e2 (by rw [h.2]; exact hu), if_pos hn]
          simp only [Option.some.injEq, Prod.mk.injEq]
          exact ⟨h.1, by rw [h.2]⟩
        · cases h
      · rename_i hl; rw [if_neg hl]
        split at h
        · rename_i hp; rw [if_pos hp]
          cases inner with
          | none => simp at h
          | some f =>
            simp only at h ⊢
            split at h
            · rename_i y t' hf
              rw [hi f rfl _ _ _ _ (.inl (by simp)) hf]
              simp only [Option.some.injEq, Prod.mk.injEq] at h
              simp [h.1, h.2]
            · cases h
        · cases h
theorem signE_ext {f : Reads} (hs : Eats f) (hf : Ext f) : Ext (signE f) := by
  intro r x t u hu h
  unfold signE at h ⊢
  have e1 := taken_ext (p := fun c => c == 45) (by decide) r u
  simp only at h e1 ⊢
  split at h
  · cases h
  · rename_i y t' h'
    have := hs _ _ _ h'
    rw [e1 (.inl (by intro e; rw [e] at this; simp at this))]
    simp only [Option.some.injEq, Prod.mk.injEq] at h
    rw [hf _ _ _ _ (by rw [h.2]; exact hu) h']
    simp only [Option.some.injEq, Prod.mk.injEq]
    exact ⟨h.1, by rw [h.2]⟩
theorem still_some {t t' u : List UInt8} (hl : t.length ≤ t'.length) (hu : t ≠ [] ∨ Shut u) : t' ≠ [] ∨ Shut u := by
  rcases hu with hu | hu
  · refine .inl fun e => hu ?_
    rw [e] at hl
    exact List.eq_nil_of_length_eq_zero (by simpa using hl)
  · exact .inr hu
theorem moreE_ext {ops : List UInt8} {several : Bool} {sub : Reads} (h41 : ops.contains 41 = false) (hs : Eats sub) (he : Ext sub) : ∀ (k : Nat) (a : Ex) (r : List UInt8) (x : Ex) (t u : List UInt8), r.length < k → (t ≠ [] ∨ Shut u) → moreE ops several sub k a r = some (x, t) → moreE ops several sub (k + u.length) a (r ++ u) = some (x, t ++ u) := by
  intro k
  induction k with
  | zero => intro a r x t u h; omega
  | succ k ih =>
    intro a r x t u hk hu h
    rw [show k + 1 + u.length = (k + u.length) + 1 by omega]
    unfold moreE at h ⊢
    cases r with
    | nil =>
      simp only [Option.some.injEq, Prod.mk.injEq] at h
      rcases hu with hu | rfl | ⟨v, rfl⟩
      · exact absurd h.2.symm hu
      · simp [h.1, ← h.2]
      · simp only [List.nil_append]
        rw [if_neg (by rw [h41]; simp)]
        simp [h.1, ← h.2]
    | cons c r =>
      simp only [List.cons_append] at h ⊢
      split at h
      · rename_i hc; rw [if_pos hc]
        split at h
        · cases h
        · rename_i b t' hb
          have := hs _ _ _ hb
          simp only [List.length_cons] at hk
          split at h
          · rename_i hv
            rw [he _ _ _ _ (still_some (moreE_eats hs _ _ _ _ _ h) hu) hb]
            simp only
            rw [if_pos hv]
            exact ih _ _ _ _ _ (by omega) hu h
          · rename_i hv
            simp only [Option.some.injEq, Prod.mk.injEq] at h
            rw [he _ _ _ _ (by rw [h.2]; exact hu) hb]
            simp only
            rw [if_neg hv]
            simp only [Option.some.injEq, Prod.mk.injEq]
            exact ⟨h.1, by rw [h.2]⟩
      · rename_i hc; rw [if_neg hc]
        simp only [Option.some.injEq, Prod.mk.injEq] at h ⊢
        exact ⟨h.1, by rw [← h.2]; rfl⟩
theorem levelE_ext {ops : List UInt8} {several : Bool} {sub : Reads} (h41 : ops.contains 41 = false) (hs : Eats sub) (he : Ext sub) : Ext (levelE ops several sub) := by
  intro r x t u hu h
  unfold levelE at h ⊢
  split at h
  · cases h
  · rename_i a t' ha
    rw [he _ _ _ _ (still_some (moreE_eats hs _ _ _ _ _ h) hu) ha]
    simp only
    have := moreE_ext h41 hs he _ _ _ _ _ _ (Nat.lt_succ_self _) hu h
    rw [List.length_append, show t'.length + u.length + 1 = t'.length + 1 + u.length by omega]
    exact this
theorem binaryE_ext {sign : Reads} (hs : Eats sign) (he : Ext sign) : ∀ l : List (List UInt8 × Bool), (∀ p ∈ l, p.1.contains 41 = false) → Ext (binaryE sign l)
  | [], _ => he
  | p :: ls, h => levelE_ext (h p (by simp)) (binaryE_eats hs ls) (binaryE_ext hs he ls (fun q hq => h q (by simp [hq])))
theorem exprE_ext : ∀ d, Ext (exprE d)
  | 0 =>
    have h1 : Eats (primE none) := primE_eats (by intro f h; cases h)
    binaryE_ext (signE_eats h1) (signE_ext h1 (primE_ext (by intro f h; cases h))) _ (by decide)
  | d + 1 =>
    have h1 : Eats (primE (some (exprE d))) := primE_eats (by intro f h; injection h with h; exact h ▸ exprE_eats d)
    binaryE_ext (signE_eats h1) (signE_ext h1 (primE_ext (by intro f h; injection h with h; exact h ▸ exprE_ext d))) _ (by decide)

/-! Numerals in an expression are not too great; values neither. -/
inductive Fine : Ex → Prop
  | num {n : Nat} (h : n ≤ 9007199254740992) : Fine (.num n)
  | name (s : List UInt8) : Fine (.name s)
  | neg (k : Nat) {x : Ex} (h : Fine x) : Fine (.neg k x)
  | bin (op : UInt8) {a b : Ex} (ha : Fine a) (hb : Fine b) : Fine (.bin op a b)
def Fines (f : Reads) : Prop := ∀ r x t, f r = some (x, t) → Fine x
theorem primE_fine {inner : Option Reads} (hi : ∀ f, inner = some f → Fines f) : Fines (primE inner) := by
  intro r x t h
  unfold primE at h
  cases r with
  | nil => simp at h
  | cons c r =>
    simp only at h
    split at h
    · split at h
      · cases h
      · rename_i hn
        simp only [Option.some.injEq, Prod.mk.injEq] at h
        rw [← h.1]; exact .num (by omega)
    · split at h
      · split at h
        · simp only [Option.some.injEq, Prod.mk.injEq] at h
          rw [← h.1]; exact .name _
        · cases h
      · split at h
        · split at h
          · cases h
          · rename_i f
            split at h
            · rename_i y t' hf
              simp only [Option.some.injEq, Prod.mk.injEq] at h
              rw [← h.1]; exact hi f rfl _ _ _ hf
            · cases h
        · cases h
theorem signE_fine {f : Reads} (hf : Fines f) : Fines (signE f) := by
  intro r x t h
  unfold signE at h
  simp only at h
  split at h
  · cases h
  · rename_i y t' h'
    simp only [Option.some.injEq, Prod.mk.injEq] at h
    rw [← h.1]
    split
    · exact hf _ _ _ h'
    · exact .neg _ (hf _ _ _ h')
theorem moreE_fine {ops : List UInt8} {several : Bool} {sub : Reads} (hs : Fines sub) : ∀ (k : Nat) (a : Ex) (r : List UInt8) (x : Ex) (t : List UInt8), Fine a → moreE ops several sub k a r = some (x, t) → Fine x := by
  intro k
  induction k with
  | zero => intro a r x t ha h; simp [moreE] at h; exact h.1 ▸ ha
  | succ k ih =>
    intro a r x t ha h
    unfold moreE at h
    cases r with
    | nil => simp at h; exact h.1 ▸ ha
    | cons c r =>
      simp only at h
      split at h
      · split at h
        · cases h
        · rename_i b t' hb
          have := hs _ _ _ hb
          split at h
          · exact ih _ _ _ _ (.bin _ ha this) h
          · simp only [Option.some.injEq, Prod.mk.injEq] at h
            rw [← h.1]; exact .bin _ ha this
      · simp only [Option.some.injEq, Prod.mk.injEq] at h
        exact h.1 ▸ ha
theorem levelE_fine {ops : List UInt8} {several : Bool} {sub : Reads} (hs : Fines sub) : Fines (levelE ops several sub) := by
  intro r x t h
  unfold levelE at h
  split at h
  · cases h
  · rename_i a t' ha
    exact moreE_fine hs _ _ _ _ _ (hs _ _ _ ha) h
theorem binaryE_fine {sign : Reads} (hs : Fines sign) : ∀ l, Fines (binaryE sign l)
  | [] => hs
  | _ :: ls => levelE_fine (binaryE_fine hs ls)
theorem exprE_fine : ∀ d, Fines (exprE d)
  | 0 => binaryE_fine (signE_fine (primE_fine (by intro f h; cases h))) _
  | d + 1 => binaryE_fine (signE_fine (primE_fine (by intro f h; injection h with h; exact h ▸ exprE_fine d))) _
theorem parseE_some {s : List UInt8} {x : Ex} (h : parseE s = some x) : exprE 16 s = some (x, []) := by
  unfold parseE at h
  split at h
  · rename_i y he; injection h with h; rw [he, h]
  · cases h
theorem parseE_fine {s : List UInt8} {x : Ex} (h : parseE s = some x) : Fine x := exprE_fine 16 _ _ _ (parseE_some h)

def Within (v : Int) : Prop := -maxValue ≤ v ∧ v ≤ maxValue
theorem small_ok {n v : Int} (h : small n = .ok v) : v = n ∧ Within n := by
  unfold small at h
  split at h
  · cases h
  · rename_i hn; injection h with h; exact ⟨h.symm, by unfold Within; omega⟩
theorem small_within {n : Int} (h : Within n) : small n = .ok n := by
  unfold small
  rw [if_neg (by unfold Within at h; omega)]
theorem bit_within (b : Bool) : Within (bit b) := by unfold bit Within maxValue; split <;> omega
theorem tdiv_within {a b : Int} (h : Within a) : Within (a.tdiv b) := by
  unfold Within at *
  have := Int.natAbs_tdiv_le_natAbs a b
  omega
theorem tmod_within {a b : Int} (h : Within a) : Within (a.tmod b) := by
  unfold Within at *
  have h1 := Int.natAbs_tmod a b
  have := Nat.mod_le a.natAbs b.natAbs
  omega
theorem applyOp_within {op : UInt8} {a b v : Int} (ha : Within a) (h : applyOp op a b = .ok v) : Within v := by
  unfold applyOp at h
  split at h
  · have := small_ok h; exact this.1 ▸ this.2
  split at h
  · have := small_ok h; exact this.1 ▸ this.2
  split at h
  · have := small_ok h; exact this.1 ▸ this.2
  split at h
  · split at h
    · cases h
    · injection h with h; exact h ▸ tdiv_within ha
  split at h
  · split at h
    · cases h
    · injection h with h; exact h ▸ tmod_within ha
  split at h
  · injection h with h; exact h ▸ bit_within _
  split at h
  · injection h with h; exact h ▸ bit_within _
  split at h
  · injection h with h; exact h ▸ bit_within _
  split at h
  · injection h with h; exact h ▸ bit_within _
  · injection h with h; exact h ▸ bit_within _
theorem eval_within {σ : List UInt8 → Option Int} {x : Ex} (hx : Fine x) : ∀ {v : Int}, x.eval σ = .ok v → Within v := by
  induction hx with
  | num h => intro v hv; simp [Ex.eval] at hv; unfold Within maxValue; omega
  | name s =>
    intro v hv; simp only [Ex.eval] at hv
    split at hv
    · have := small_ok hv; exact this.1 ▸ this.2
    · cases hv
  | neg k h ih =>
    intro v hv; simp only [Ex.eval] at hv
    split at hv
    · have := small_ok hv; exact this.1 ▸ this.2
    · cases hv
  | bin op ha hb iha ihb =>
    intro v hv; simp only [Ex.eval] at hv
    split at hv
    · cases hv
    · rename_i a h1
      split at hv
      · cases hv
      · exact applyOp_within (iha h1) hv

/-! What a text of an expression is worth; parentheses, a sum with 0, two signs, a comparison with itself. -/
def evalT (s : List UInt8) (σ : List UInt8 → Option Int) : Int × Int :=
  match parseE s with
  | none => (0, 4)
  | some x => match x.eval σ with | .ok v => (v, 0) | .error e => (0, e)

theorem levelE_stop {ops : List UInt8} {sv : Bool} {sub : Reads} {r t : List UInt8} {a : Ex} (h : sub r = some (a, t)) (ht : t = [] ∨ ∃ c u, t = c :: u ∧ ops.contains c = false) : levelE ops sv sub r = some (a, t) := by
  unfold levelE
  rw [h]
  simp only
  unfold moreE
  rcases ht with rfl | ⟨c, u, rfl, hc⟩
  · rfl
  · simp only [hc]; rfl
theorem binaryE_stop {f : Reads} {r t : List UInt8} {a : Ex} (h : f r = some (a, t)) : ∀ l : List (List UInt8 × Bool), (t = [] ∨ ∃ c u, t = c :: u ∧ ∀ p ∈ l, p.1.contains c = false) → binaryE f l r = some (a, t)
  | [], _ => h
  | p :: ls, ht => by
    refine levelE_stop (binaryE_stop h ls ?_) ?_
    · rcases ht with ht | ⟨c, u, e, hc⟩
      · exact .inl ht
      · exact .inr ⟨c, u, e, fun q hq => hc q (by simp [hq])⟩
    · rcases ht with ht | ⟨c, u, e, hc⟩
      · exact .inl ht
      · exact .inr ⟨c, u, e, hc p (by simp)⟩
theorem levelE_some {ops : List UInt8} {sv : Bool} {sub : Reads} {r : List UInt8} {y : Ex × List UInt8} (h : levelE ops sv sub r = some y) : ∃ a, sub r = some a := by
  unfold levelE at h
  split at h
  · cases h
  · exact ⟨_, by assumption⟩
theorem binaryE_some {f : Reads} {r : List UInt8} : ∀ (l : List (List UInt8 × Bool)) {y : Ex × List UInt8}, binaryE f l r = some y → ∃ a, f r = some a
  | [], y, h => ⟨y, h⟩
  | _ :: ls, _, h => let ⟨_, ha⟩ := levelE_some h; binaryE_some ls ha
theorem signE_none {f : Reads} {c : UInt8} {r : List UInt8} (hc : (c == 45) = false) : signE f (c :: r) = f (c :: r) := by
  unfold signE
  have e : taken (· == 45) (c :: r) = ([], c :: r) := by simp [taken, hc]
  rw [e]
  simp only
  cases f (c :: r) <;> simp

theorem primE_open (inner : Option Reads) (r : List UInt8) : primE inner (40 :: r) = match inner with
    | none => none
    | some f => match f r with
      | some (x, 41 :: t') => some (x, t')
      | _ => none := by
  unfold primE
  simp only
  rw [if_neg (by decide : ¬ isDig 40 = true), if_neg (by decide : ¬ isLet 40 = true), if_pos trivial]
abbrev sign16 : Reads := signE (primE (some (exprE 15)))
theorem exprE_16 : exprE 16 = binaryE sign16 grammar := rfl

/-- An expression in parentheses is read as the expression, or there are too many open ones. -/
theorem paren_or {e : List UInt8} {x : Ex} (h : parseE e = some x) {y : Ex} (hy : parseE (40 :: (e ++ [41])) = some y) : ∀ u, exprE 15 (e ++ 41 :: u) = some (x, 41 :: u) := by
  intro u
  have h16 := parseE_some h
  have hy16 := parseE_some hy
  rw [exprE_16] at hy16
  obtain ⟨⟨a, t⟩, ha⟩ := binaryE_some _ hy16
  rw [sign16, signE_none (by decide)] at ha
  rw [primE_open] at ha
  simp only at ha
  split at ha
  · rename_i z t' hz
    have h1 := exprE_into 15 _ _ _ hz
    have h2 := exprE_ext 16 _ _ _ [41] (.inr (.inr ⟨_, rfl⟩)) h16
    rw [h1] at h2
    simp only [Option.some.injEq, Prod.mk.injEq, List.nil_append, List.cons.injEq, true_and] at h2
    obtain ⟨rfl, rfl⟩ := h2
    have := exprE_ext 15 _ _ _ u (.inl (by simp)) hz
    simpa using this
  · cases ha
theorem prim_paren {e : List UInt8} {x : Ex} (H : ∀ u, exprE 15 (e ++ 41 :: u) = some (x, 41 :: u)) (u : List UInt8) : sign16 (40 :: (e ++ 41 :: u)) = some (x, u) := by
  rw [sign16, signE_none (by decide)]
  rw [primE_open]
  simp only [H]
theorem parseE_of {s : List UInt8} {x : Ex} (h : exprE 16 s = some (x, [])) : parseE s = some x := by unfold parseE; rw [h]
theorem paren_same {e : List UInt8} {x : Ex} (H : ∀ u, exprE 15 (e ++ 41 :: u) = some (x, 41 :: u)) : parseE (40 :: (e ++ [41])) = some x :=
  parseE_of (by rw [exprE_16]; exact binaryE_stop (prim_paren H []) _ (.inl rfl))
/-- A level whose first operand is followed by an operator and a last operand. -/
theorem levelE_two {ops : List UInt8} {sv : Bool} {sub : Reads} {r t : List UInt8} {c : UInt8} {a b : Ex} (h : sub r = some (a, c :: t)) (hc : ops.contains c = true) (hb : sub t = some (b, [])) : levelE ops sv sub r = some (.bin c a b, []) := by
  unfold levelE
  rw [h]
  simp only [List.length_cons]
  rw [moreE]
  rw [if_pos hc, hb]
  simp only
  split
  · rw [moreE]
  · rfl
theorem paren_sum {e : List UInt8} {x : Ex} (H : ∀ u, exprE 15 (e ++ 41 :: u) = some (x, 41 :: u)) : parseE (48 :: 43 :: 40 :: (e ++ [41])) = some (.bin 43 (.num 0) x) := by
  have h0 : sign16 (48 :: 43 :: 40 :: (e ++ [41])) = some (.num 0, 43 :: 40 :: (e ++ [41])) := by
    rw [sign16, signE_none (by decide)]
    unfold primE
    simp only
    rw [if_pos (by decide : isDig 48 = true)]
    have et : taken isDig (48 :: 43 :: 40 :: (e ++ [41])) = ([48], 43 :: 40 :: (e ++ [41])) := by
      unfold taken
      rw [List.takeWhile_cons_of_pos (by decide), List.takeWhile_cons_of_neg (by decide), List.dropWhile_cons_of_pos (by decide), List.dropWhile_cons_of_neg (by decide)]
    rw [et]
    simp [numOf]
  have hp := prim_paren H []
  refine parseE_of ?_
  rw [exprE_16]
  have h1 : binaryE sign16 [([42, 47, 37], true)] (48 :: 43 :: 40 :: (e ++ [41])) = some (.num 0, 43 :: 40 :: (e ++ [41])) := binaryE_stop h0 _ (.inr ⟨_, _, rfl, by decide⟩)
  have h2 : binaryE sign16 [([42, 47, 37], true)] (40 :: (e ++ [41])) = some (x, []) := binaryE_stop hp _ (.inl rfl)
  have h3 : binaryE sign16 [([43, 45], true), ([42, 47, 37], true)] (48 :: 43 :: 40 :: (e ++ [41])) = some (.bin 43 (.num 0) x, []) := levelE_two h1 (by decide) h2
  exact binaryE_stop (f := binaryE sign16 [([43, 45], true), ([42, 47, 37], true)]) h3 [([124], true), ([38], true), ([61, 60, 62], false)] (.inl rfl)
theorem paren_signs {e : List UInt8} {x : Ex} (H : ∀ u, exprE 15 (e ++ 41 :: u) = some (x, 41 :: u)) : parseE (45 :: 45 :: 40 :: (e ++ [41])) = some (.neg 2 x) := by
  have h0 : sign16 (45 :: 45 :: 40 :: (e ++ [41])) = some (.neg 2 x, []) := by
    have hp := prim_paren H []
    rw [sign16, signE_none (by decide)] at hp
    unfold sign16 signE
    have et : taken (· == 45) (45 :: 45 :: 40 :: (e ++ [41])) = ([45, 45], 40 :: (e ++ [41])) := by
      unfold taken
      rw [List.takeWhile_cons_of_pos (by decide), List.takeWhile_cons_of_pos (by decide), List.takeWhile_cons_of_neg (by decide), List.dropWhile_cons_of_pos (by decide), List.dropWhile_cons_of_pos (by decide), List.dropWhile_cons_of_neg (by decide)]
    rw [et]
    simp only [hp]
    rfl
  refine parseE_of ?_
  rw [exprE_16]
  exact binaryE_stop h0 _ (.inl rfl)
theorem paren_eq {e : List UInt8} {x : Ex} (H : ∀ u, exprE 15 (e ++ 41 :: u) = some (x, 41 :: u)) : parseE (40 :: (e ++ 41 :: 61 :: 40 :: (e ++ [41]))) = some (.bin 61 x x) := by
  have h0 := prim_paren H (61 :: 40 :: (e ++ [41]))
  have hp := prim_paren H []
  refine parseE_of ?_
  rw [exprE_16]
  have h1 : binaryE sign16 [([43, 45], true), ([42, 47, 37], true)] (40 :: (e ++ 41 :: 61 :: 40 :: (e ++ [41]))) = some (x, 61 :: 40 :: (e ++ [41])) := binaryE_stop h0 _ (.inr ⟨_, _, rfl, by decide⟩)
  have h2 : binaryE sign16 [([43, 45], true), ([42, 47, 37], true)] (40 :: (e ++ [41])) = some (x, []) := binaryE_stop hp _ (.inl rfl)
  have h3 : binaryE sign16 [([61, 60, 62], false), ([43, 45], true), ([42, 47, 37], true)] (40 :: (e ++ 41 :: 61 :: 40 :: (e ++ [41]))) = some (.bin 61 x x, []) := levelE_two h1 (by decide) h2
  exact binaryE_stop (f := binaryE sign16 [([61, 60, 62], false), ([43, 45], true), ([42, 47, 37], true)]) h3 [([124], true), ([38], true)] (.inl rfl)

theorem small_err {n e : Int} (h : small n = .error e) : e = 101 := by
  unfold small at h
  split at h
  · injection h with h; exact h.symm
  · cases h
theorem applyOp_err {op : UInt8} {a b e : Int} (h : applyOp op a b = .error e) : e = 101 := by
  unfold applyOp at h
  split at h
  · exact small_err h
  split at h
  · exact small_err h
  split at h
  · exact small_err h
  split at h
  · split at h
    · injection h with h; exact h.symm
    · cases h
  split at h
  · split at h
    · injection h with h; exact h.symm
    · cases h
  split at h
  · cases h
  split at h
  · cases h
  split at h
  · cases h
  split at h
  · cases h
  · cases h
theorem eval_err {σ : List UInt8 → Option Int} {x : Ex} : ∀ {e : Int}, x.eval σ = .error e → e = 100 ∨ e = 101 := by
  induction x with
  | num n => intro e h; cases h
  | name s =>
    intro e h; simp only [Ex.eval] at h
    split at h
    · exact .inr (small_err h)
    · injection h with h; exact .inl h.symm
  | neg k x ih =>
    intro e h; simp only [Ex.eval] at h
    split at h
    · exact .inr (small_err h)
    · rename_i e' he; injection h with h; exact h ▸ ih he
  | bin op a b iha ihb =>
    intro e h; simp only [Ex.eval] at h
    split at h
    · rename_i e' he; injection h with h; exact h ▸ iha he
    · split at h
      · rename_i e' he; injection h with h; exact h ▸ ihb he
      · exact .inr (applyOp_err h)

/-- What the law ScriptValues asks, in plain words. -/
theorem values_law (e : List UInt8) (σ : List UInt8 → Option Int) :
    ((evalT e σ).2 = 4 → (evalT e σ).1 = 0) ∧
    ((evalT e σ).2 ≠ 4 → (evalT (40 :: (e ++ [41])) σ).2 ≠ 4 →
      (evalT (40 :: (e ++ [41])) σ).2 = (evalT e σ).2 ∧ (evalT (48 :: 43 :: 40 :: (e ++ [41])) σ).2 = (evalT e σ).2 ∧
      (evalT (45 :: 45 :: 40 :: (e ++ [41])) σ).2 = (evalT e σ).2 ∧ (evalT (40 :: (e ++ 41 :: 61 :: 40 :: (e ++ [41]))) σ).2 = (evalT e σ).2 ∧
      ((evalT e σ).2 ≠ 0 → (evalT e σ).1 = 0) ∧
      ((evalT e σ).2 = 0 → Within (evalT e σ).1 ∧ (evalT (40 :: (e ++ [41])) σ).1 = (evalT e σ).1 ∧ (evalT (48 :: 43 :: 40 :: (e ++ [41])) σ).1 = (evalT e σ).1 ∧
        (evalT (45 :: 45 :: 40 :: (e ++ [41])) σ).1 = (evalT e σ).1 ∧ (evalT (40 :: (e ++ 41 :: 61 :: 40 :: (e ++ [41]))) σ).1 = 1)) := by
  constructor
  · intro h
    unfold evalT at *
    split
    · rfl
    · rename_i x hx
      rw [hx] at h
      simp only at h
      split at h
      · cases h
      · rfl
  · intro h4 h4'
    have hsome : ∃ x, parseE e = some x := by
      unfold evalT at h4
      split at h4
      · exact absurd rfl h4
      · exact ⟨_, by assumption⟩
    have hsome' : ∃ x, parseE (40 :: (e ++ [41])) = some x := by
      unfold evalT at h4'
      split at h4'
      · exact absurd rfl h4'
      · exact ⟨_, by assumption⟩
    obtain ⟨x, hx⟩ := hsome
    obtain ⟨y, hy⟩ := hsome'
    have H := paren_or hx hy
    have hf := parseE_fine hx
    have e1 := paren_same H
    have e2 := paren_sum H
    have e3 := paren_signs H
    have e4 := paren_eq H
    unfold evalT
    rw [e1, e2, e3, e4, hx]
    simp only [Ex.eval]
    cases hv : x.eval σ with
    | error er => have := eval_err hv; simp; omega
    | ok v =>
      have hw := eval_within hf hv
      have a1 : applyOp 43 0 v = .ok v := by
        unfold applyOp; rw [if_pos rfl, Int.zero_add]; exact small_within hw
      have a2 : applyOp 61 v v = .ok 1 := by
        simp [applyOp, bit]
      have a3 : small v = .ok v := small_within hw
      simp [a1, a2, a3, hw]

/-- A statement: its line, its word, its name, its expressions, and the statements within it. -/
inductive Stm where
  | mk (line : Nat) (kind name : List UInt8) (args : List Ex) (body other : List Stm)

/-- An act. -/
structure Act5 where
  kind : Nat
  f : List Int
  keep : List Int
deriving Repr, DecidableEq

structure Ran where
  vars : List UInt8 → Option Int
  steps : Nat
  acts : List Act5

abbrev Res := Except (Int × Nat) Ran

def sLet : List UInt8 := [108, 101, 116]
def sFor : List UInt8 := [102, 111, 114]
def sIf : List UInt8 := [105, 102]
def sElse : List UInt8 := [101, 108, 115, 101]
def sEnd : List UInt8 := [101, 110, 100]

/-- The words of acts with their numbers of fields. -/
def actWords : List (List UInt8 × Nat) := [
  ([109,111,117,110,116], 1), ([112,114,105,110,116], 2), ([116,105,99,107], 0), ([115,112,111,105,108], 2), ([114,101,112,97,105,114], 2),
  ([105,110,115,112,101,99,116], 4), ([99,117,116], 1), ([98,101,103,105,110], 0), ([108,111,111,107], 3), ([109,111,118,101], 5),
  ([99,111,109,109,105,116], 1), ([97,98,111,114,116], 1), ([100,101,115,116,114,111,121], 4), ([97,117,100,105,116], 3), ([115,97,118,101], 0),
  ([99,104,101,99,107], 0), ([99,114,97,115,104], 0)]
def actOfL (w : List UInt8) : Nat := (actWords.findIdx? (·.1 == w)).elim 0 (· + 1)
def makeActL (kind : Nat) (l : List Int) : Act5 := if kind = 17 then ⟨kind, [0, 0, 0, 0, 0], l⟩ else ⟨kind, (l ++ [0, 0, 0, 0, 0]).take 5, []⟩

def stepL (line : Nat) (s : Ran) : Res := if s.steps + 1 > 16384 then .error (5, line) else .ok { s with steps := s.steps + 1 }
def upd (σ : List UInt8 → Option Int) (n : List UInt8) (v : Int) : List UInt8 → Option Int := fun m => if m = n then some v else σ m
def evalAll (σ : List UInt8 → Option Int) : List Ex → Except Int (List Int)
  | [] => .ok []
  | x :: xs => match x.eval σ with
    | .error e => .error e
    | .ok v => match evalAll σ xs with | .error e => .error e | .ok vs => .ok (v :: vs)

/-- The rounds of a loop. -/
def loopL (body : Ran → Res) (line : Nat) (name : List UInt8) : Nat → Int → Int → Ran → Res
  | 0, _, _, s => .ok s
  | k + 1, v, hi, s =>
    if v ≤ hi then
      match stepL line s with
      | .error e => .error e
      | .ok s1 => match body { s1 with vars := upd s1.vars name v } with
        | .error e => .error e
        | .ok s2 => loopL body line name k (v + 1) hi s2
    else .ok s

mutual
def runS : Stm → Ran → Res
  | .mk line kind name args body other, s =>
    match stepL line s with
    | .error e => .error e
    | .ok s1 =>
      match evalAll s1.vars args with
      | .error e => .error (e, line)
      | .ok v =>
        if kind = sLet then .ok { s1 with vars := upd s1.vars name (v.getD 0 0) }
        else if kind = sFor then loopL (fun r => runL body r) line name 16385 (v.getD 0 0) (v.getD 1 0) s1
        else if kind = sIf then (if v.getD 0 0 ≠ 0 then runL body s1 else runL other s1)
        else if s1.acts.length = 4096 then .error (5, line)
        else .ok { s1 with acts := s1.acts ++ [makeActL (actOfL kind) v] }
def runL : List Stm → Ran → Res
  | [], s => .ok s
  | t :: ts, s => match runS t s with | .error e => .error e | .ok s1 => runL ts s1
end

/-- An open statement. -/
structure Opn where
  line : Nat
  kind : List UInt8
  name : List UInt8
  args : List Ex
  body : List Stm
  other : List Stm
  hasOther : Bool
def Opn.toStm (o : Opn) : Stm := .mk o.line o.kind o.name o.args o.body o.other
def Opn.put (o : Opn) (s : Stm) : Opn := if o.hasOther then { o with other := o.other ++ [s] } else { o with body := o.body ++ [s] }

structure Bld where
  top : List Stm
  open_ : List Opn      -- the innermost one first
def Bld.put (b : Bld) (s : Stm) : Bld := match b.open_ with | [] => { b with top := b.top ++ [s] } | o :: os => { b with open_ := o.put s :: os }

def isNameL (s : List UInt8) : Bool := s.length ≥ 1 && s.length ≤ 16 && s.all isLet
def exprsL : List (List UInt8) → Option (List Ex)
  | [] => some []
  | w :: ws => match parseE w with | none => none | some x => match exprsL ws with | none => none | some xs => some (x :: xs)
def namedL (w : List (List UInt8)) (many : Nat) : Option (List UInt8 × List Ex) :=
  match w with
  | [] => none
  | n :: t => if t.length = many ∧ isNameL n then (exprsL t).map (n, ·) else none
def simpleL (w : List (List UInt8)) (least most : Nat) : Option (List UInt8 × List Ex) :=
  if w.length < least ∨ w.length > most then none else (exprsL w).map ([], ·)
def partsL (kind : List UInt8) (w : List (List UInt8)) : Option (List UInt8 × List Ex) :=
  if kind = sLet then namedL w 1 else if kind = sFor then namedL w 2 else if kind = sIf then simpleL w 1 1
  else
    let k := actOfL kind
    if k = 0 then none else if k = 17 then simpleL w 0 16
    else let n := (actWords.getD (k - 1) ([], 0)).2; simpleL w n n
def closeL (b : Bld) (w : List (List UInt8)) : Option Bld :=
  match b.open_ with
  | [] => none
  | o :: os =>
    if w.length ≠ 1 then none
    else if w.headD [] = sEnd then some (Bld.put { b with open_ := os } o.toStm)
    else if o.kind ≠ sIf ∨ o.hasOther then none else some { b with open_ := { o with hasOther := true } :: os }
def addL (line : Nat) (w : List (List UInt8)) (b : Bld) : Option Bld :=
  match w with
  | [] => some b
  | k :: t =>
    if k = sElse ∨ k = sEnd then closeL b w
    else match partsL k t with
      | none => none
      | some (n, xs) =>
        if k = sFor ∨ k = sIf then
          if b.open_.length + 1 ≤ 16 then some { b with open_ := ⟨line, k, n, xs, [], [], false⟩ :: b.open_ } else none
        else some (b.put (.mk line k n xs [] []))

/-- A text cut at a byte. -/
def cutAt (b : UInt8) : List UInt8 → List (List UInt8)
  | [] => [[]]
  | c :: t => if c = b then [] :: cutAt b t else match cutAt b t with | [] => [[c]] | l :: ls => (c :: l) :: ls
def wordsL (line : List UInt8) : List (List UInt8) := (cutAt 32 line).filter (· ≠ [])
def linesL (text : List UInt8) : List (List UInt8) := let l := cutAt 10 text; if l.getLastD [] = [] then l.dropLast else l

/-- The lines from a number on are read; else the first wrong line. -/
def readL : Nat → List (List UInt8) → Bld → Except Nat Bld
  | _, [], b => .ok b
  | i, l :: ls, b =>
    let w := wordsL l
    if w = [] ∨ (w.headD []).headD 0 = 35 then readL (i + 1) ls b
    else match addL (i + 1) w b with
      | none => .error (i + 1)
      | some b1 => readL (i + 1) ls b1

/-- The acts of a script, or a line with an error. -/
def compileL (text : List UInt8) : Except (Nat × Int) (List Act5) :=
  if text.length > 65536 then .error (0, 5)
  else
    let ls := linesL text
    match readL 0 ls ⟨[], []⟩ with
    | .error i => .error (i, 4)
    | .ok b =>
      if b.open_ ≠ [] then .error (ls.length + 1, 4)
      else match runL b.top ⟨fun _ => none, 0, []⟩ with
        | .error (e, line) => .error (line, e)
        | .ok s => .ok s.acts

/-! Statements that differ in their lines alone run alike. -/
mutual
def simS : Stm → Stm → Prop
  | .mk l k n xs b o, t => ∃ l' b' o', t = .mk l' k n xs b' o' ∧ simL b b' ∧ simL o o' ∧ (0 < l ↔ 0 < l')
def simL : List Stm → List Stm → Prop
  | [], ts => ts = []
  | s :: ss, ts => ∃ t ts', ts = t :: ts' ∧ simS s t ∧ simL ss ts'
end

def Full (r : Res) : Prop := ∃ l, r = .error (5, l)
/-- Two results are alike: exactly, or where neither ends at a limit. -/
def Alike (exact : Bool) (r r' : Res) : Prop :=
  (exact = false ∧ (Full r ∨ Full r')) ∨ (∃ s s', r = .ok s ∧ r' = .ok s' ∧ s.vars = s'.vars ∧ s.acts = s'.acts ∧ (exact = true → s.steps = s'.steps)) ∨
    (∃ e l l', r = .error (e, l) ∧ r' = .error (e, l') ∧ (0 < l ↔ 0 < l'))
structure Near (exact : Bool) (s s' : Ran) : Prop where
  vars : s.vars = s'.vars
  acts : s.acts = s'.acts
  steps : exact = true → s.steps = s'.steps

theorem Alike.ok {ex : Bool} {s s' : Ran} (h : Near ex s s') : Alike ex (.ok s) (.ok s') := .inr (.inl ⟨s, s', rfl, rfl, h.vars, h.acts, h.steps⟩)
theorem Alike.err {ex : Bool} {e : Int} {l l' : Nat} (h : 0 < l ↔ 0 < l') : Alike ex (.error (e, l)) (.error (e, l')) := .inr (.inr ⟨e, l, l', rfl, rfl, h⟩)
/-- Go on behind two alike results. -/
theorem Alike.bind {ex : Bool} {r r' : Res} {f g : Ran → Res} : Alike ex r r' → (∀ s s', Near ex s s' → Alike ex (f s) (g s')) →
    Alike ex (match r with | .error e => .error e | .ok s => f s) (match r' with | .error e => .error e | .ok s => g s) := by
  intro h hf
  rcases h with ⟨he, h⟩ | ⟨s, s', rfl, rfl, h1, h2, h3⟩ | ⟨e, l, l', rfl, rfl, hl⟩
  · rcases h with ⟨l, rfl⟩ | ⟨l, rfl⟩
    · exact .inl ⟨he, .inl ⟨l, rfl⟩⟩
    · exact .inl ⟨he, .inr ⟨l, rfl⟩⟩
  · exact hf s s' ⟨h1, h2, h3⟩
  · exact .err hl
theorem stepL_alike {ex : Bool} {l l' : Nat} (hl : 0 < l ↔ 0 < l') {s s' : Ran} (h : Near ex s s') : Alike ex (stepL l s) (stepL l' s') := by
  unfold stepL
  cases ex with
  | true =>
    rw [h.steps rfl]
    split
    · exact .err hl
    · exact .ok ⟨h.vars, h.acts, fun _ => rfl⟩
  | false =>
    split
    · exact .inl ⟨rfl, .inl ⟨_, rfl⟩⟩
    · split
      · exact .inl ⟨rfl, .inr ⟨_, rfl⟩⟩
      · exact .ok ⟨h.vars, h.acts, fun h => by cases h⟩
theorem loopL_alike {ex : Bool} {f g : Ran → Res} (hf : ∀ s s', Near ex s s' → Alike ex (f s) (g s')) {l l' : Nat} (hl : 0 < l ↔ 0 < l') (n : List UInt8) : ∀ (k : Nat) (v hi : Int) (s s' : Ran), Near ex s s' → Alike ex (loopL f l n k v hi s) (loopL g l' n k v hi s') := by
  intro k
  induction k with
  | zero => intro v hi s s' h; exact .ok h
  | succ k ih =>
    intro v hi s s' h
    unfold loopL
    split
    · refine (stepL_alike hl h).bind fun a a' ha => ?_
      refine Alike.bind (hf _ _ ⟨?_, ha.acts, ha.steps⟩) fun b b' hb => ih _ _ _ _ hb
      simp only [ha.vars]
    · exact .ok h
mutual
theorem runS_alike (ex : Bool) : ∀ (a b : Stm), simS a b → ∀ s s', Near ex s s' → Alike ex (runS a s) (runS b s')
  | .mk l k n xs bd ot, t, h, s, s', hs => by
    unfold simS at h
    obtain ⟨l', b', o', rfl, hb, ho, hl⟩ := h
    have ihb := runL_alike ex bd b' hb
    have iho := runL_alike ex ot o' ho
    unfold runS
    refine (stepL_alike hl hs).bind fun a a' ha => ?_
    rw [ha.vars]
    cases evalAll a'.vars xs with
    | error e => exact .err hl
    | ok v =>
      simp only
      split
      · exact .ok ⟨rfl, ha.acts, ha.steps⟩
      split
      · exact loopL_alike ihb hl n _ _ _ _ _ ha
      split
      · split
        · exact ihb _ _ ha
        · exact iho _ _ ha
      rw [ha.acts]
      split
      · exact .err hl
      · exact .ok ⟨rfl, rfl, ha.steps⟩
theorem runL_alike (ex : Bool) : ∀ (a b : List Stm), simL a b → ∀ s s', Near ex s s' → Alike ex (runL a s) (runL b s')
  | [], ts, h, s, s', hs => by
    unfold simL at h
    subst h
    unfold runL
    exact .ok hs
  | x :: xs, ts, h, s, s', hs => by
    unfold simL at h
    obtain ⟨t, ts', rfl, h1, h2⟩ := h
    unfold runL
    exact (runS_alike ex x t h1 s s' hs).bind fun a a' ha => runL_alike ex xs ts' h2 a a' ha
end

/-! Errors of a run name a line; lines are positive. -/
mutual
def posS : Stm → Prop
  | .mk l _ _ _ b o => 0 < l ∧ posL b ∧ posL o
def posL : List Stm → Prop
  | [] => True
  | s :: ss => posS s ∧ posL ss
end
theorem stepL_pos {l : Nat} (hl : 0 < l) {s : Ran} {e : Int} {k : Nat} (h : stepL l s = .error (e, k)) : 0 < k := by
  unfold stepL at h
  split at h
  · injection h with h; injection h with _ h; omega
  · cases h
theorem loopL_pos {f : Ran → Res} (hf : ∀ s e k, f s = .error (e, k) → 0 < k) {l : Nat} (hl : 0 < l) (n : List UInt8) : ∀ (j : Nat) (v hi : Int) (s : Ran) (e : Int) (k : Nat), loopL f l n j v hi s = .error (e, k) → 0 < k := by
  intro j
  induction j with
  | zero => intro v hi s e k h; cases h
  | succ j ih =>
    intro v hi s e k h
    unfold loopL at h
    split at h
    · split at h
      · rename_i e' he; injection h with h; subst h; exact stepL_pos hl he
      · split at h
        · rename_i e' he; injection h with h; subst h; exact hf _ _ _ he
        · exact ih _ _ _ _ _ h
    · cases h
mutual
theorem runS_pos : ∀ (a : Stm), posS a → ∀ s e k, runS a s = .error (e, k) → 0 < k
  | .mk l kd n xs bd ot, h, s, e, k, hr => by
    unfold posS at h
    obtain ⟨hl, hb, ho⟩ := h
    have ihb := runL_pos bd hb
    have iho := runL_pos ot ho
    unfold runS at hr
    split at hr
    · rename_i e' he; injection hr with hr; subst hr; exact stepL_pos hl he
    · split at hr
      · injection hr with hr; injection hr with _ hr; omega
      · split at hr
        · cases hr
        split at hr
        · exact loopL_pos ihb hl n _ _ _ _ _ _ hr
        split at hr
        · split at hr
          · exact ihb _ _ _ hr
          · exact iho _ _ _ hr
        split at hr
        · injection hr with hr; injection hr with _ hr; omega
        · cases hr
theorem runL_pos : ∀ (a : List Stm), posL a → ∀ s e k, runL a s = .error (e, k) → 0 < k
  | [], _, s, e, k, hr => by unfold runL at hr; cases hr
  | x :: xs, h, s, e, k, hr => by
    unfold posL at h
    unfold runL at hr
    split at hr
    · rename_i e' he; injection hr with hr; subst hr; exact runS_pos x h.1 _ _ _ he
    · exact runL_pos xs h.2 _ _ _ hr
end

/-! What is read depends on the words alone. -/
theorem simL_append : ∀ {a a' : List Stm}, simL a a' → ∀ {b b'}, simL b b' → simL (a ++ b) (a' ++ b')
  | [], ts, h, b, b', hb => by unfold simL at h; subst h; exact hb
  | x :: xs, ts, h, b, b', hb => by
    unfold simL at h
    obtain ⟨t, ts', rfl, h1, h2⟩ := h
    rw [List.cons_append, List.cons_append]
    unfold simL
    exact ⟨t, ts' ++ b', rfl, h1, simL_append h2 hb⟩
theorem simL_one {a b : Stm} (h : simS a b) : simL [a] [b] := by unfold simL; exact ⟨b, [], rfl, h, by unfold simL; rfl⟩
theorem posL_append : ∀ {a b : List Stm}, posL a → posL b → posL (a ++ b)
  | [], b, _, hb => hb
  | x :: xs, b, h, hb => by
    unfold posL at h
    rw [List.cons_append]
    unfold posL
    exact ⟨h.1, posL_append h.2 hb⟩

inductive All2 {α β : Type} (R : α → β → Prop) : List α → List β → Prop
  | nil : All2 R [] []
  | cons {a : α} {b : β} {l : List α} {l' : List β} (h : R a b) (t : All2 R l l') : All2 R (a :: l) (b :: l')
structure SimO (o o' : Opn) : Prop where
  line : 0 < o.line ∧ 0 < o'.line
  kind : o.kind = o'.kind
  name : o.name = o'.name
  args : o.args = o'.args
  body : simL o.body o'.body
  other : simL o.other o'.other
  has : o.hasOther = o'.hasOther
  pos : posL o.body ∧ posL o.other
structure SimB (b b' : Bld) : Prop where
  top : simL b.top b'.top
  pos : posL b.top
  open_ : All2 SimO b.open_ b'.open_
theorem SimO.toStm {o o' : Opn} (h : SimO o o') : simS o.toStm o'.toStm ∧ posS o.toStm := by
  unfold Opn.toStm simS posS
  rw [h.kind, h.name, h.args]
  exact ⟨⟨_, _, _, rfl, h.body, h.other, by simp [h.line.1, h.line.2]⟩, h.line.1, h.pos.1, h.pos.2⟩
theorem SimO.put {o o' : Opn} (h : SimO o o') {s s' : Stm} (hs : simS s s') (hp : posS s) : SimO (o.put s) (o'.put s') := by
  have hp1 : posL [s] := by unfold posL; exact ⟨hp, by unfold posL; trivial⟩
  unfold Opn.put
  rw [h.has]
  split
  · exact ⟨h.line, h.kind, h.name, h.args, h.body, simL_append h.other (simL_one hs), rfl, h.pos.1, posL_append h.pos.2 hp1⟩
  · exact ⟨h.line, h.kind, h.name, h.args, simL_append h.body (simL_one hs), h.other, rfl, posL_append h.pos.1 hp1, h.pos.2⟩
theorem SimB.put {b b' : Bld} (h : SimB b b') {s s' : Stm} (hs : simS s s') (hp : posS s) : SimB (b.put s) (b'.put s') := by
  have hp1 : posL [s] := by unfold posL; exact ⟨hp, by unfold posL; trivial⟩
  obtain ⟨ht, hps, ho⟩ := h
  unfold Bld.put
  cases b with | mk t os => cases b' with | mk t' os' =>
  cases ho with
  | nil => exact ⟨simL_append ht (simL_one hs), posL_append hps hp1, .nil⟩
  | cons h1 h2 => exact ⟨ht, hps, .cons (h1.put hs hp) h2⟩

/-- Both fail, or both go on alike. -/
def Both (x y : Option Bld) : Prop := (x = none ∧ y = none) ∨ ∃ b b', x = some b ∧ y = some b' ∧ SimB b b'
theorem closeL_both {b b' : Bld} (h : SimB b b') (w : List (List UInt8)) : Both (closeL b w) (closeL b' w) := by
  obtain ⟨ht, hps, ho⟩ := h
  cases b with | mk t bs => cases b' with | mk t' bs' =>
  unfold closeL
  cases ho with
  | nil => exact .inl ⟨rfl, rfl⟩
  | @cons o o' os os' h1 h2 =>
    simp only
    split
    · exact .inl ⟨rfl, rfl⟩
    split
    · have hb : SimB ⟨t, os⟩ ⟨t', os'⟩ := SimB.mk ht hps h2
      exact .inr ⟨_, _, rfl, rfl, SimB.put hb h1.toStm.1 h1.toStm.2⟩
    rw [h1.kind, h1.has]
    split
    · exact .inl ⟨rfl, rfl⟩
    · exact .inr ⟨_, _, rfl, rfl, ht, hps, .cons ⟨h1.line, rfl, h1.name, h1.args, h1.body, h1.other, rfl, h1.pos⟩ h2⟩
theorem forall2_len {α β : Type} {R : α → β → Prop} {l : List α} {l' : List β} (h : All2 R l l') : l.length = l'.length := by
  induction h with
  | nil => rfl
  | cons _ _ ih => simp [ih]
theorem addL_both {b b' : Bld} (h : SimB b b') (w : List (List UInt8)) {l l' : Nat} (hl : 0 < l) (hl' : 0 < l') : Both (addL l w b) (addL l' w b') := by
  unfold addL
  cases w with
  | nil => exact .inr ⟨_, _, rfl, rfl, h⟩
  | cons k t =>
    simp only
    split
    · exact closeL_both h _
    cases partsL k t with
    | none => exact .inl ⟨rfl, rfl⟩
    | some p =>
      obtain ⟨n, xs⟩ := p
      have hlen := forall2_len h.open_
      simp only
      rw [hlen]
      split
      · split
        · exact .inr ⟨_, _, rfl, rfl, h.top, h.pos, .cons ⟨⟨hl, hl'⟩, rfl, rfl, rfl, by unfold simL; rfl, by unfold simL; rfl, rfl, by unfold posL; trivial, by unfold posL; trivial⟩ h.open_⟩
        · exact .inl ⟨rfl, rfl⟩
      · refine .inr ⟨_, _, rfl, rfl, h.put ?_ ?_⟩
        · unfold simS
          exact ⟨_, _, _, rfl, by unfold simL; rfl, by unfold simL; rfl, by simp [hl, hl']⟩
        · unfold posS
          exact ⟨hl, by unfold posL; trivial, by unfold posL; trivial⟩

def idle (w : List (List UInt8)) : Bool := w = [] ∨ (w.headD []).headD 0 = 35
def sig (ls : List (List UInt8)) : List (List (List UInt8)) := (ls.map wordsL).filter (fun w => !idle w)
/-- The lines' words are read, whatever the lines' numbers. -/
def rd : List (List (List UInt8)) → Bld → Option Bld
  | [], b => some b
  | w :: ws, b => match addL 1 w b with | none => none | some b1 => rd ws b1
theorem readL_rd : ∀ (ls : List (List UInt8)) (i : Nat) (b b' : Bld), SimB b b' → ((∃ k, readL i ls b = .error k ∧ 0 < k) ∧ rd (sig ls) b' = none) ∨ ∃ c c', readL i ls b = .ok c ∧ rd (sig ls) b' = some c' ∧ SimB c c'
  | [], i, b, b', h => .inr ⟨b, b', rfl, rfl, h⟩
  | l :: ls, i, b, b', h => by
    unfold readL
    simp only
    by_cases hi : idle (wordsL l) = true
    · have hi' : wordsL l = [] ∨ ((wordsL l).headD []).headD 0 = 35 := by simpa [idle] using hi
      rw [if_pos hi']
      have : sig (l :: ls) = sig ls := by unfold sig; simp [hi]
      rw [this]
      exact readL_rd ls (i + 1) b b' h
    · have hi' : ¬ (wordsL l = [] ∨ ((wordsL l).headD []).headD 0 = 35) := by simpa [idle] using hi
      rw [if_neg hi']
      have : sig (l :: ls) = wordsL l :: sig ls := by unfold sig; simp [hi]
      rw [this]
      unfold rd
      rcases addL_both h (wordsL l) (Nat.succ_pos i) Nat.one_pos with ⟨e1, e2⟩ | ⟨c, c', e1, e2, hc⟩
      · rw [e1, e2]; exact .inl ⟨⟨i + 1, rfl, by omega⟩, rfl⟩
      · rw [e1, e2]; exact readL_rd ls (i + 1) c c' hc

def start : Bld := ⟨[], []⟩
theorem start_sim : SimB start start := ⟨by unfold start simL; rfl, by unfold start posL; trivial, .nil⟩
def begun : Ran := ⟨fun _ => none, 0, []⟩

/-- The acts, the line and the error of a script. -/
def compT (text : List UInt8) : List Act5 × Nat × Int := match compileL text with | .ok l => (l, 0, 0) | .error (k, e) => ([], k, e)
/-- The same without lines. -/
def compC (ws : List (List (List UInt8))) : Option Res := match rd ws start with
  | none => none
  | some b => if b.open_ ≠ [] then none else some (runL b.top begun)
theorem compT_of {text : List UInt8} (hl : text.length ≤ 65536) :
    match compC (sig (linesL text)) with
    | none => ∃ k, compT text = ([], k, 4) ∧ 0 < k
    | some r => ∃ r', Alike true r r' ∧ (match r' with | .ok s => compT text = (s.acts, 0, 0) | .error (e, k) => compT text = ([], k, e) ∧ 0 < k) := by
  unfold compT compileL compC
  rw [if_neg (by omega)]
  simp only
  rcases readL_rd (linesL text) 0 start start start_sim with ⟨⟨k, e1, hk⟩, e2⟩ | ⟨c, c', e1, e2, hc⟩
  · have e1' : readL 0 (linesL text) ⟨[], []⟩ = .error k := e1
    rw [e2, e1']
    exact ⟨k, rfl, hk⟩
  · have e1' : readL 0 (linesL text) ⟨[], []⟩ = .ok c := e1
    rw [e2, e1']
    simp only
    have hlen := forall2_len hc.open_
    by_cases ho : c.open_ = []
    · have ho' : c'.open_ = [] := by rw [ho] at hlen; exact List.eq_nil_of_length_eq_zero hlen.symm
      rw [if_neg (by simp [ho']), if_neg (by simp [ho])]
      have ha := runL_alike true _ _ hc.top begun begun ⟨rfl, rfl, fun _ => rfl⟩
      refine ⟨runL c.top begun, ?_, ?_⟩
      · rcases ha with ⟨he, _⟩ | ⟨s, s', h1, h2, h3, h4, h5⟩ | ⟨e, l, l', h1, h2, h3⟩
        · cases he
        · exact .inr (.inl ⟨s', s, h2, h1, h3.symm, h4.symm, fun h => (h5 h).symm⟩)
        · exact .inr (.inr ⟨e, l', l, h2, h1, h3.symm⟩)
      · have hb : (⟨fun _ => none, 0, []⟩ : Ran) = begun := rfl
        rw [hb]
        cases hr : runL c.top begun with
        | ok s => rfl
        | error p =>
          obtain ⟨e, k⟩ := p
          exact ⟨rfl, runL_pos _ hc.pos _ _ _ hr⟩
    · have ho' : c'.open_ ≠ [] := by intro e; rw [e] at hlen; exact ho (List.eq_nil_of_length_eq_zero hlen)
      rw [if_pos ho', if_pos ho]
      exact ⟨_, rfl, Nat.succ_pos _⟩

/-! Empty lines, remarks and further blanks. -/
theorem cutAt_ne (b : UInt8) : ∀ t, cutAt b t ≠ []
  | [] => by unfold cutAt; simp
  | c :: t => by
    unfold cutAt
    split
    · simp
    · split <;> simp
theorem cutAt_cons_ne {b c : UInt8} (h : c ≠ b) {t p : List UInt8} {ps : List (List UInt8)} (ht : cutAt b t = p :: ps) : cutAt b (c :: t) = (c :: p) :: ps := by
  rw [cutAt, if_neg h, ht]
theorem cutAt_cons_eq (b : UInt8) (t : List UInt8) : cutAt b (b :: t) = [] :: cutAt b t := by rw [cutAt, if_pos rfl]
theorem cutAt_append (b : UInt8) (y : List UInt8) : ∀ x, cutAt b (x ++ b :: y) = cutAt b x ++ cutAt b y
  | [] => by rw [List.nil_append, cutAt_cons_eq]; rfl
  | c :: x => by
    rw [List.cons_append]
    by_cases h : c = b
    · subst h; rw [cutAt_cons_eq, cutAt_cons_eq, cutAt_append]; rfl
    · obtain ⟨p, ps, e⟩ := List.exists_cons_of_ne_nil (cutAt_ne b x)
      rw [cutAt_cons_ne h e, cutAt_cons_ne (ps := ps ++ cutAt b y) h (by rw [cutAt_append, e]; rfl)]; rfl
theorem cutAt_none {b : UInt8} : ∀ {x : List UInt8}, b ∉ x → cutAt b x = [x]
  | [], _ => rfl
  | c :: x, h => by
    rw [cutAt_cons_ne (p := x) (ps := []) (fun e => h (by simp [e])) (cutAt_none fun e => h (by simp [e]))]
theorem sig_append (a b : List (List UInt8)) : sig (a ++ b) = sig a ++ sig b := by unfold sig; simp
theorem sig_idle {l : List UInt8} (h : idle (wordsL l) = true) (ls : List (List UInt8)) : sig (l :: ls) = sig ls := by unfold sig; simp [h]
theorem sig_cons_same {l l' : List UInt8} (h : wordsL l = wordsL l') {ls ls' : List (List UInt8)} (hs : sig ls = sig ls') : sig (l :: ls) = sig (l' :: ls') := by
  unfold sig at *
  simp only [List.map_cons, List.filter_cons, h, hs]
theorem sig_lines (t : List UInt8) : sig (linesL t) = sig (cutAt 10 t) := by
  unfold linesL
  simp only
  split
  · rename_i h
    have hne := cutAt_ne 10 t
    obtain ⟨l, e⟩ : ∃ l, cutAt 10 t = l ++ [[]] := by
      refine ⟨(cutAt 10 t).dropLast, ?_⟩
      have := List.dropLast_concat_getLast hne
      rw [List.getLastD_eq_getLast?, List.getLast?_eq_some_getLast hne] at h
      simp only [Option.getD_some] at h
      rw [h] at this
      exact this.symm
    rw [e, List.dropLast_concat, sig_append]
    have : sig [[]] = [] := by decide
    rw [this, List.append_nil]
  · rfl
theorem wordsL_blank (t : List UInt8) : wordsL (32 :: t) = wordsL t := by
  unfold wordsL
  rw [cutAt_cons_eq]
  simp

/-- The same first piece, and the same words behind it. -/
def Wide (h h' : List UInt8) : Prop := ∃ p ps ps', cutAt 32 h = p :: ps ∧ cutAt 32 h' = p :: ps' ∧ ps.filter (· ≠ []) = ps'.filter (· ≠ [])
theorem Wide.words {h h' : List UInt8} (w : Wide h h') : wordsL h = wordsL h' := by
  obtain ⟨p, ps, ps', e, e', hf⟩ := w
  unfold wordsL
  rw [e, e', List.filter_cons, List.filter_cons, hf]

def remark : List UInt8 := [32, 32, 32, 35, 120, 32, 121]
def flat : List UInt8 → List UInt8
  | [] => []
  | c :: t => if c = 32 then 32 :: 32 :: 32 :: flat t else if c = 10 then 10 :: (remark ++ 10 :: 32 :: 32 :: flat t) else c :: flat t
theorem flat_cut : ∀ t, ∃ h r h' r', cutAt 10 t = h :: r ∧ cutAt 10 (flat t) = h' :: r' ∧ Wide h h' ∧ sig r = sig r'
  | [] => ⟨[], [], [], [], rfl, rfl, ⟨[], [], [], rfl, rfl, rfl⟩, rfl⟩
  | c :: t => by
    obtain ⟨h, r, h', r', e, e', hw, hs⟩ := flat_cut t
    by_cases h1 : c = 32
    · subst h1
      refine ⟨32 :: h, r, 32 :: 32 :: 32 :: h', r', cutAt_cons_ne (by decide) e, ?_, ?_, hs⟩
      · rw [flat, if_pos rfl]
        exact cutAt_cons_ne (by decide) (cutAt_cons_ne (by decide) (cutAt_cons_ne (by decide) e'))
      · refine ⟨[], cutAt 32 h, [] :: [] :: cutAt 32 h', cutAt_cons_eq _ _, by rw [cutAt_cons_eq, cutAt_cons_eq, cutAt_cons_eq], ?_⟩
        have := hw.words
        unfold wordsL at this
        simp only [List.filter_cons, this]
        simp
    · by_cases h2 : c = 10
      · subst h2
        refine ⟨[], h :: r, [], remark :: (32 :: 32 :: h') :: r', by rw [cutAt_cons_eq, e], ?_, ⟨[], [], [], rfl, rfl, rfl⟩, ?_⟩
        · rw [flat, if_neg (by decide), if_pos rfl, cutAt_cons_eq, cutAt_append]
          have : cutAt 10 remark = [remark] := by decide
          rw [this, cutAt_cons_ne (by decide) (cutAt_cons_ne (by decide) e')]
          rfl
        · rw [sig_idle (l := remark) (by decide)]
          refine sig_cons_same ?_ hs
          rw [wordsL_blank, wordsL_blank]; exact hw.words
      · refine ⟨c :: h, r, c :: h', r', cutAt_cons_ne h2 e, ?_, ?_, hs⟩
        · rw [flat, if_neg h1, if_neg h2]; exact cutAt_cons_ne h2 e'
        · obtain ⟨p, ps, ps', a1, a2, a3⟩ := hw
          exact ⟨c :: p, ps, ps', cutAt_cons_ne h1 a1, cutAt_cons_ne h1 a2, a3⟩
def spacedOf (t : List UInt8) : List UInt8 := 10 :: ([35, 32, 114, 101, 109, 97, 114, 107] ++ 10 :: 32 :: 32 :: flat t)
theorem sig_spaced (t : List UInt8) : sig (linesL (spacedOf t ++ [10])) = sig (linesL t) := by
  rw [sig_lines, sig_lines]
  unfold spacedOf
  rw [List.cons_append, cutAt_cons_eq, sig_idle (by decide)]
  rw [show ([35, 32, 114, 101, 109, 97, 114, 107] ++ 10 :: 32 :: 32 :: flat t ++ [10] : List UInt8) = [35, 32, 114, 101, 109, 97, 114, 107] ++ 10 :: (32 :: 32 :: flat t ++ [10]) by simp, cutAt_append, sig_append]
  have e0 : sig (cutAt 10 [35, 32, 114, 101, 109, 97, 114, 107]) = [] := by decide
  rw [e0, List.nil_append]
  obtain ⟨h, r, h', r', e, e', hw, hs⟩ := flat_cut t
  rw [show 32 :: 32 :: flat t ++ [10] = (32 :: 32 :: flat t) ++ 10 :: [] from rfl, cutAt_append, sig_append]
  have e1 : sig (cutAt 10 []) = [] := by decide
  rw [e1, List.append_nil, cutAt_cons_ne (by decide) (cutAt_cons_ne (by decide) e'), e]
  refine sig_cons_same ?_ hs.symm
  rw [wordsL_blank, wordsL_blank]; exact hw.words.symm
theorem flat_len : ∀ t, (flat t).length ≤ 11 * t.length
  | [] => Nat.le_refl _
  | c :: t => by
    have := flat_len t
    unfold flat remark
    split
    · simp; omega
    split
    · simp; omega
    · simp; omega

/-- Texts of the same words give the same acts and errors. -/
theorem same_words {a b : List UInt8} (ha : a.length ≤ 65536) (hb : b.length ≤ 65536) (h : sig (linesL a) = sig (linesL b)) :
    (compT a).1 = (compT b).1 ∧ (compT a).2.2 = (compT b).2.2 ∧ ((compT a).2.1 = 0 ↔ (compT b).2.1 = 0) := by
  have h1 := compT_of ha
  have h2 := compT_of hb
  rw [h] at h1
  cases hc : compC (sig (linesL b)) with
  | none =>
    rw [hc] at h1 h2
    obtain ⟨k, e, hk⟩ := h1
    obtain ⟨k', e', hk'⟩ := h2
    rw [e, e']
    exact ⟨rfl, rfl, by simp; omega⟩
  | some r =>
    rw [hc] at h1 h2
    obtain ⟨r1, a1, b1⟩ := h1
    obtain ⟨r2, a2, b2⟩ := h2
    rcases a1 with ⟨he, _⟩ | ⟨s, s1, e1, rfl, _, e3, _⟩ | ⟨e, l, l1, e1, rfl, _⟩
    · cases he
    · rcases a2 with ⟨he, _⟩ | ⟨s', s2, e1', rfl, _, e3', _⟩ | ⟨e', l', l2, e1', rfl, _⟩
      · cases he
      · rw [e1] at e1'; injection e1' with e1'; subst e1'
        simp only at b1 b2
        rw [b1, b2, ← e3, ← e3']
        exact ⟨rfl, rfl, Iff.rfl⟩
      · rw [e1] at e1'; cases e1'
    · rcases a2 with ⟨he, _⟩ | ⟨s', s2, e1', rfl, _, e3', _⟩ | ⟨e', l', l2, e1', rfl, _⟩
      · cases he
      · rw [e1] at e1'; cases e1'
      · rw [e1] at e1'; injection e1' with e1'; injection e1' with e1' _; subst e1'
        simp only at b1 b2
        rw [b1.1, b2.1]
        exact ⟨rfl, rfl, by have := b1.2; have := b2.2; simp; omega⟩
/-- What the law ScriptSpaced asks, in plain words. -/
theorem spaced_law {t : List UInt8} (h : t.length ≤ 1000) :
    (compT t).1 = (compT (spacedOf t ++ [10])).1 ∧ (compT t).2.2 = (compT (spacedOf t ++ [10])).2.2 ∧ ((compT t).2.1 = 0 ↔ (compT (spacedOf t ++ [10])).2.1 = 0) := by
  refine same_words (by omega) ?_ (sig_spaced t).symm
  have := flat_len t
  unfold spacedOf
  simp; omega

/-! What is read within a block is what is read alone, or there are too many blocks. -/
def Opn.putAll (o : Opn) (l : List Stm) : Opn := if o.hasOther then { o with other := o.other ++ l } else { o with body := o.body ++ l }
def emb (T : List Stm) (o : Opn) (os : List Opn) (b : Bld) : Bld := ⟨T, b.open_ ++ (o.putAll b.top) :: os⟩
theorem putAll_put (o : Opn) (l : List Stm) (s : Stm) : (o.putAll l).put s = o.putAll (l ++ [s]) := by
  unfold Opn.putAll Opn.put
  cases h : o.hasOther <;> simp
theorem emb_put (T : List Stm) (o : Opn) (os : List Opn) (b : Bld) (s : Stm) : (emb T o os b).put s = emb T o os (b.put s) := by
  cases b with | mk t bs =>
  cases bs with
  | nil => unfold emb Bld.put; simp [putAll_put]
  | cons p ps => unfold emb Bld.put; simp
theorem emb_close {T : List Stm} {o : Opn} {os : List Opn} {b b1 : Bld} {w : List (List UInt8)} (h : closeL b w = some b1) : closeL (emb T o os b) w = some (emb T o os b1) := by
  cases b with | mk t bs =>
  cases bs with
  | nil => unfold closeL at h; cases h
  | cons p ps =>
    unfold closeL at h ⊢
    simp only [emb, List.cons_append] at h ⊢
    split at h
    · cases h
    rename_i h1; rw [if_neg h1]
    split at h
    · rename_i h2; rw [if_pos h2]
      injection h with h; subst h
      exact congrArg some (emb_put T o os ⟨t, ps⟩ p.toStm)
    rename_i h2; rw [if_neg h2]
    split at h
    · cases h
    rename_i h3; rw [if_neg h3]
    injection h with h; subst h
    rfl
theorem emb_add {T : List Stm} {o : Opn} {os : List Opn} {b b1 : Bld} {l : Nat} {w : List (List UInt8)} (h : addL l w b = some b1) : addL l w (emb T o os b) = none ∨ addL l w (emb T o os b) = some (emb T o os b1) := by
  unfold addL at h ⊢
  cases w with
  | nil => injection h with h; subst h; exact .inr rfl
  | cons k t =>
    simp only at h ⊢
    split at h
    · rename_i h1; rw [if_pos h1]; exact .inr (emb_close h)
    rename_i h1; rw [if_neg h1]
    cases hp : partsL k t with
    | none => exact .inl rfl
    | some p =>
      obtain ⟨n, xs⟩ := p
      rw [hp] at h
      simp only at h ⊢
      split at h
      · rename_i h2; rw [if_pos h2]
        split at h
        · injection h with h; subst h
          split
          · exact .inr rfl
          · exact .inl rfl
        · cases h
      · rename_i h2; rw [if_neg h2]
        injection h with h; subst h
        exact .inr (congrArg some (emb_put T o os b _))
theorem emb_rd {T : List Stm} {o : Opn} {os : List Opn} : ∀ (ws : List (List (List UInt8))) {b b1 : Bld}, rd ws b = some b1 → rd ws (emb T o os b) = none ∨ rd ws (emb T o os b) = some (emb T o os b1)
  | [], b, b1, h => by unfold rd at h ⊢; injection h with h; subst h; exact .inr rfl
  | w :: ws, b, b1, h => by
    unfold rd at h ⊢
    cases ha : addL 1 w b with
    | none => rw [ha] at h; cases h
    | some c =>
      rw [ha] at h
      rcases emb_add (T := T) (o := o) (os := os) ha with e | e
      · rw [e]; exact .inl rfl
      · rw [e]; exact emb_rd ws h
theorem rd_nil (b : Bld) : rd [] b = some b := rfl
theorem rd_cons (w : List (List UInt8)) (ws : List (List (List UInt8))) (b : Bld) : rd (w :: ws) b = (match addL 1 w b with | none => none | some b1 => rd ws b1) := rfl
theorem rd_append (b : List (List (List UInt8))) : ∀ (a : List (List (List UInt8))) (c : Bld), rd (a ++ b) c = (match rd a c with | none => none | some d => rd b d)
  | [], c => rfl
  | w :: a, c => by
    rw [List.cons_append, rd_cons, rd_cons]
    cases addL 1 w c with
    | none => rfl
    | some d => exact rd_append b a d

/-- Statements read before stay ahead. -/
def pre (T : List Stm) (b : Bld) : Bld := ⟨T ++ b.top, b.open_⟩
theorem pre_put (T : List Stm) (b : Bld) (s : Stm) : (pre T b).put s = pre T (b.put s) := by
  cases b with | mk t bs =>
  cases bs with
  | nil => unfold pre Bld.put; simp
  | cons p ps => unfold pre Bld.put; simp
theorem pre_add {T : List Stm} {b b1 : Bld} {l : Nat} {w : List (List UInt8)} (h : addL l w b = some b1) : addL l w (pre T b) = some (pre T b1) := by
  unfold addL at h ⊢
  cases w with
  | nil => injection h with h; subst h; rfl
  | cons k t =>
    simp only at h ⊢
    split at h
    · rename_i h1; rw [if_pos h1]
      cases b with | mk tp bs =>
      cases bs with
      | nil => unfold closeL at h; cases h
      | cons p ps =>
        unfold closeL at h ⊢
        simp only [pre] at h ⊢
        split at h
        · cases h
        rename_i h1; rw [if_neg h1]
        split at h
        · rename_i h2; rw [if_pos h2]
          injection h with h; subst h
          exact congrArg some (pre_put T ⟨tp, ps⟩ p.toStm)
        rename_i h2; rw [if_neg h2]
        split at h
        · cases h
        rename_i h3; rw [if_neg h3]
        injection h with h; subst h
        rfl
    rename_i h1; rw [if_neg h1]
    cases hp : partsL k t with
    | none => rw [hp] at h; cases h
    | some p =>
      obtain ⟨n, xs⟩ := p
      rw [hp] at h
      simp only at h ⊢
      split at h
      · rename_i h2; rw [if_pos h2]
        split at h
        · rename_i h3
          injection h with h; subst h
          exact if_pos h3
        · cases h
      · rename_i h2; rw [if_neg h2]
        injection h with h; subst h
        exact congrArg some (pre_put T b _)
theorem pre_rd {T : List Stm} : ∀ (ws : List (List (List UInt8))) {b b1 : Bld}, rd ws b = some b1 → rd ws (pre T b) = some (pre T b1)
  | [], b, b1, h => by unfold rd at h ⊢; injection h with h; subst h; rfl
  | w :: ws, b, b1, h => by
    unfold rd at h ⊢
    cases ha : addL 1 w b with
    | none => rw [ha] at h; cases h
    | some c =>
      rw [ha] at h
      rw [pre_add ha]; exact pre_rd ws h

mutual
theorem simS_refl : ∀ s, simS s s
  | .mk l k n xs b o => by unfold simS; exact ⟨l, b, o, rfl, simL_refl b, simL_refl o, Iff.rfl⟩
theorem simL_refl : ∀ s, simL s s
  | [] => by unfold simL; rfl
  | x :: xs => by unfold simL; exact ⟨x, xs, rfl, simS_refl x, simL_refl xs⟩
end
theorem runL_near {l : List Stm} {s s' : Ran} (hv : s.vars = s'.vars) (ha : s.acts = s'.acts) : Alike false (runL l s) (runL l s') := runL_alike false l l (simL_refl l) s s' ⟨hv, ha, fun h => by cases h⟩
theorem runL_nil (s : Ran) : runL [] s = .ok s := by unfold runL; rfl
theorem runL_cons (x : Stm) (xs : List Stm) (s : Ran) : runL (x :: xs) s = (match runS x s with | .error e => .error e | .ok s1 => runL xs s1) := by conv => lhs; unfold runL
theorem runL_append (b : List Stm) : ∀ (a : List Stm) (s : Ran), runL (a ++ b) s = (match runL a s with | .error e => .error e | .ok s1 => runL b s1)
  | [], s => by rw [List.nil_append, runL_nil]
  | x :: xs, s => by
    rw [List.cons_append, runL_cons, runL_cons]
    cases runS x s with
    | error e => rfl
    | ok s1 => exact runL_append b xs s1

/-- Two texts whose runs are alike, where neither meets a limit. -/
theorem alike_law {a b : List UInt8} (ha : a.length ≤ 65536) (hb : b.length ≤ 65536) {r r' : Res} (e1 : compC (sig (linesL a)) = some r) (e2 : compC (sig (linesL b)) = some r') (h : Alike false r r')
    (n1 : (compT a).2.2 ≠ 5) (n2 : (compT b).2.2 ≠ 5) : (compT a).2.2 = (compT b).2.2 ∧ (compT a).1 = (compT b).1 := by
  have h1 := compT_of ha
  have h2 := compT_of hb
  rw [e1] at h1
  rw [e2] at h2
  obtain ⟨r1, a1, b1⟩ := h1
  obtain ⟨r2, a2, b2⟩ := h2
  rcases a1 with ⟨he, _⟩ | ⟨s, s1, rfl, rfl, _, e3, _⟩ | ⟨e, l, l1, rfl, rfl, _⟩
  · cases he
  · rcases a2 with ⟨he, _⟩ | ⟨s', s2, rfl, rfl, _, e3', _⟩ | ⟨e', l', l2, rfl, rfl, _⟩
    · cases he
    · simp only at b1 b2
      rw [b1, b2]
      rcases h with ⟨_, ⟨_, h⟩ | ⟨_, h⟩⟩ | ⟨x, y, hx, hy, _, h, _⟩ | ⟨_, _, _, h, _⟩
      · cases h
      · cases h
      · injection hx with hx; injection hy with hy; subst hx hy
        exact ⟨rfl, by rw [← e3, ← e3', h]⟩
      · cases h
    · simp only at b2
      rcases h with ⟨_, ⟨_, h⟩ | ⟨_, h⟩⟩ | ⟨x, y, hx, hy, _, h, _⟩ | ⟨_, _, _, h, _⟩
      · cases h
      · injection h with h; injection h with h _; rw [b2.1] at n2; exact absurd h n2
      · cases hy
      · cases h
  · simp only at b1
    rcases a2 with ⟨he, _⟩ | ⟨s', s2, rfl, rfl, _, e3', _⟩ | ⟨e', l', l2, rfl, rfl, _⟩
    · cases he
    · rcases h with ⟨_, ⟨_, h⟩ | ⟨_, h⟩⟩ | ⟨x, y, hx, hy, _, h, _⟩ | ⟨_, _, _, _, h, _⟩
      · injection h with h; injection h with h _; rw [b1.1] at n1; exact absurd h n1
      · cases h
      · cases hx
      · cases h
    · simp only at b2
      rw [b1.1, b2.1]
      rcases h with ⟨_, ⟨_, h⟩ | ⟨_, h⟩⟩ | ⟨x, y, hx, hy, _, h, _⟩ | ⟨_, _, _, h, h', _⟩
      · injection h with h; injection h with h _; rw [b1.1] at n1; exact absurd h n1
      · injection h with h; injection h with h _; rw [b2.1] at n2; exact absurd h n2
      · cases hx
      · injection h with h; injection h with h _; injection h' with h'; injection h' with h' _
        exact ⟨by simp [h, h'], rfl⟩
theorem compT_none {a : List UInt8} (ha : a.length ≤ 65536) (e : compC (sig (linesL a)) = none) : (compT a).2.2 = 4 := by
  have h := compT_of ha
  rw [e] at h
  obtain ⟨k, h, _⟩ := h
  rw [h]
theorem compT_some {a : List UInt8} (ha : a.length ≤ 65536) (h4 : (compT a).2.2 ≠ 4) : ∃ b, rd (sig (linesL a)) start = some b ∧ b.open_ = [] ∧ compC (sig (linesL a)) = some (runL b.top begun) := by
  have h : compC (sig (linesL a)) ≠ none := fun e => h4 (compT_none ha e)
  unfold compC at h ⊢
  cases hr : rd (sig (linesL a)) start with
  | none => rw [hr] at h; exact absurd rfl h
  | some b =>
    rw [hr] at h
    simp only at h ⊢
    by_cases ho : b.open_ = []
    · exact ⟨b, rfl, ho, by rw [if_neg (by simp [ho])]⟩
    · rw [if_pos ho] at h; exact absurd rfl h

/-! What an expression's text is made of. -/
def Clean (f : Reads) : Prop := ∀ r x t, f r = some (x, t) → ∃ p, r = p ++ t ∧ ∀ c ∈ p, c ≠ 32 ∧ c ≠ 10
theorem taken_clean {p : UInt8 → Bool} (h : ∀ c, p c = true → c ≠ 32 ∧ c ≠ 10) (r : List UInt8) : r = (taken p r).1 ++ (taken p r).2 ∧ ∀ c ∈ (taken p r).1, c ≠ 32 ∧ c ≠ 10 :=
  ⟨(List.takeWhile_append_dropWhile).symm, fun c hc => h c (List.all_takeWhile (l := r) (p := p) |> List.all_eq_true.1 |> fun f => f c hc)⟩
theorem dig_clean : ∀ c, isDig c = true → c ≠ 32 ∧ c ≠ 10 := by
  intro c h
  constructor
  · rintro rfl; exact absurd h (by decide)
  · rintro rfl; exact absurd h (by decide)
theorem let_clean : ∀ c, isLet c = true → c ≠ 32 ∧ c ≠ 10 := by
  intro c h
  constructor
  · rintro rfl; exact absurd h (by decide)
  · rintro rfl; exact absurd h (by decide)
theorem primE_clean {inner : Option Reads} (hi : ∀ f, inner = some f → Clean f) : Clean (primE inner) := by
  intro r x t h
  unfold primE at h
  cases r with
  | nil => simp at h
  | cons c r =>
    simp only at h
    split at h
    · have := taken_clean dig_clean (c :: r)
      split at h
      · cases h
      · simp only [Option.some.injEq, Prod.mk.injEq] at h
        exact ⟨_, h.2 ▸ this.1, this.2⟩
    · split at h
      · have := taken_clean let_clean (c :: r)
        split at h
        · simp only [Option.some.injEq, Prod.mk.injEq] at h
          exact ⟨_, h.2 ▸ this.1, this.2⟩
        · cases h
      · split at h
        · rename_i hc
          split at h
          · cases h
          · rename_i f
            split at h
            · rename_i y t' hf
              simp only [Option.some.injEq, Prod.mk.injEq] at h
              obtain ⟨p, e, hp⟩ := hi f rfl _ _ _ hf
              refine ⟨c :: (p ++ [41]), by rw [e, ← h.2]; simp, ?_⟩
              intro d hd
              simp only [List.mem_cons, List.mem_append, List.not_mem_nil, or_false] at hd
              rcases hd with rfl | hd | rfl
              · rw [hc]; decide
              · exact hp d hd
              · decide
            · cases h
        · cases h
theorem signE_clean {f : Reads} (hf : Clean f) : Clean (signE f) := by
  intro r x t h
  unfold signE at h
  have := taken_clean (p := fun c => c == 45) (by intro c h; have : c = 45 := by simpa using h
                                                  subst this; decide) r
  simp only at h
  split at h
  · cases h
  · rename_i y t' h'
    obtain ⟨p, e, hp⟩ := hf _ _ _ h'
    simp only [Option.some.injEq, Prod.mk.injEq] at h
    refine ⟨(taken (fun c => c == 45) r).1 ++ p, ?_, ?_⟩
    · rw [List.append_assoc, ← h.2, ← e]; exact this.1
    · intro c hc
      rcases List.mem_append.1 hc with hc | hc
      · exact this.2 c hc
      · exact hp c hc
theorem moreE_clean {ops : List UInt8} {several : Bool} {sub : Reads} (ho : ∀ c, ops.contains c = true → c ≠ 32 ∧ c ≠ 10) (hs : Clean sub) : ∀ (k : Nat) (a : Ex) (r : List UInt8) (x : Ex) (t : List UInt8), moreE ops several sub k a r = some (x, t) → ∃ p, r = p ++ t ∧ ∀ c ∈ p, c ≠ 32 ∧ c ≠ 10 := by
  intro k
  induction k with
  | zero => intro a r x t h; simp [moreE] at h; exact ⟨[], by simp [h.2], by simp⟩
  | succ k ih =>
    intro a r x t h
    unfold moreE at h
    cases r with
    | nil => simp at h; exact ⟨[], by simp [h.2], by simp⟩
    | cons c r =>
      simp only at h
      split at h
      · rename_i hc
        split at h
        · cases h
        · rename_i b t' hb
          obtain ⟨p, e, hp⟩ := hs _ _ _ hb
          split at h
          · obtain ⟨q, e', hq⟩ := ih _ _ _ _ h
            refine ⟨c :: (p ++ q), by rw [e, e']; simp, ?_⟩
            intro d hd
            simp only [List.mem_cons, List.mem_append] at hd
            rcases hd with rfl | hd | hd
            · exact ho _ hc
            · exact hp d hd
            · exact hq d hd
          · simp only [Option.some.injEq, Prod.mk.injEq] at h
            refine ⟨c :: p, by rw [e, ← h.2]; simp, ?_⟩
            intro d hd
            simp only [List.mem_cons] at hd
            rcases hd with rfl | hd
            · exact ho _ hc
            · exact hp d hd
      · simp only [Option.some.injEq, Prod.mk.injEq] at h
        exact ⟨[], by simp [h.2], by simp⟩
theorem levelE_clean {ops : List UInt8} {several : Bool} {sub : Reads} (ho : ∀ c, ops.contains c = true → c ≠ 32 ∧ c ≠ 10) (hs : Clean sub) : Clean (levelE ops several sub) := by
  intro r x t h
  unfold levelE at h
  split at h
  · cases h
  · rename_i a t' ha
    obtain ⟨p, e, hp⟩ := hs _ _ _ ha
    obtain ⟨q, e', hq⟩ := moreE_clean ho hs _ _ _ _ _ h
    refine ⟨p ++ q, by rw [e, e']; simp, ?_⟩
    intro d hd
    rcases List.mem_append.1 hd with hd | hd
    · exact hp d hd
    · exact hq d hd
theorem binaryE_clean {sign : Reads} (hs : Clean sign) : ∀ l : List (List UInt8 × Bool), (∀ p ∈ l, p.1.contains 32 = false ∧ p.1.contains 10 = false) → Clean (binaryE sign l)
  | [], _ => hs
  | p :: ls, h => levelE_clean (by
      intro c hc
      have := h p (by simp)
      constructor
      · rintro rfl; rw [this.1] at hc; cases hc
      · rintro rfl; rw [this.2] at hc; cases hc) (binaryE_clean hs ls (fun q hq => h q (by simp [hq])))
theorem exprE_clean : ∀ d, Clean (exprE d)
  | 0 => binaryE_clean (signE_clean (primE_clean (by intro f h; cases h))) _ (by decide)
  | d + 1 => binaryE_clean (signE_clean (primE_clean (by intro f h; injection h with h; exact h ▸ exprE_clean d))) _ (by decide)
theorem parseE_clean {s : List UInt8} {x : Ex} (h : parseE s = some x) : (32 ∉ s ∧ 10 ∉ s) ∧ s ≠ [] := by
  have h1 := parseE_some h
  obtain ⟨p, e, hp⟩ := exprE_clean 16 _ _ _ h1
  rw [List.append_nil] at e
  subst e
  refine ⟨⟨fun hm => (hp _ hm).1 rfl, fun hm => (hp _ hm).2 rfl⟩, ?_⟩
  rintro rfl
  have := exprE_eats 16 _ _ _ h1
  simp at this

/-- The words of a line with blanks between. -/
theorem wordsL_more {a b : List UInt8} (ha : 32 ∉ a) (hn : a ≠ []) : wordsL (a ++ 32 :: b) = a :: wordsL b := by
  unfold wordsL
  rw [cutAt_append, cutAt_none ha]
  simp [hn]
theorem wordsL_last {a : List UInt8} (ha : 32 ∉ a) (hn : a ≠ []) : wordsL a = [a] := by
  unfold wordsL
  rw [cutAt_none ha]
  simp [hn]
theorem sig_busy {l : List UInt8} (h : idle (wordsL l) = false) (ls : List (List UInt8)) : sig (l :: ls) = wordsL l :: sig ls := by unfold sig; simp [h]

def choiceT (e yes no : List UInt8) : List UInt8 := sIf ++ 32 :: (e ++ 10 :: (yes ++ 10 :: (sElse ++ 10 :: (no ++ 10 :: (sEnd ++ [10])))))
theorem sig_choice {e yes no : List UInt8} {x : Ex} (h : parseE e = some x) : sig (linesL (choiceT e yes no)) = [sIf, e] :: (sig (linesL yes) ++ [sElse] :: (sig (linesL no) ++ [[sEnd]])) := by
  obtain ⟨⟨h32, h10⟩, hne⟩ := parseE_clean h
  rw [sig_lines, sig_lines, sig_lines]
  unfold choiceT
  rw [show sIf ++ 32 :: (e ++ 10 :: (yes ++ 10 :: (sElse ++ 10 :: (no ++ 10 :: (sEnd ++ [10]))))) = (sIf ++ 32 :: e) ++ 10 :: (yes ++ 10 :: (sElse ++ 10 :: (no ++ 10 :: (sEnd ++ 10 :: [])))) by simp]
  rw [cutAt_append, cutAt_append, cutAt_append, cutAt_append, cutAt_append]
  have h0 : cutAt 10 (sIf ++ 32 :: e) = [sIf ++ 32 :: e] := cutAt_none (by
    intro hm
    rcases List.mem_append.1 hm with hm | hm
    · revert hm; decide
    · rcases List.mem_cons.1 hm with hm | hm
      · revert hm; decide
      · exact h10 hm)
  have hw : wordsL (sIf ++ 32 :: e) = [sIf, e] := by rw [wordsL_more (by decide) (by decide), wordsL_last h32 hne]
  rw [h0, sig_append, sig_busy (by rw [hw]; simp [idle, sIf]), hw]
  have e1 : cutAt 10 sElse = [sElse] := by decide
  have e2 : cutAt 10 sEnd = [sEnd] := by decide
  have e3 : cutAt 10 [] = [[]] := rfl
  have s1 : sig [sElse] = [[sElse]] := by decide
  have s2 : sig [sEnd] = [[sEnd]] := by decide
  have s3 : sig [[]] = [] := by decide
  have s0 : sig [] = [] := rfl
  rw [sig_append, sig_append, e1, s1, sig_append, sig_append, e2, s2, e3, s3]
  rfl

/-- What the law ScriptChoices asks, in plain words. -/
theorem choices_law {e yes no : List UInt8} (he : e.length ≤ 500) (hy : yes.length ≤ 500) (hn : no.length ≤ 500)
    (y4 : (compT yes).2.2 ≠ 4) (n4 : (compT no).2.2 ≠ 4) (g0 : (evalT e fun _ => none).2 = 0)
    (h4 : (compT (choiceT e yes no)).2.2 ≠ 4) (h5 : (compT (choiceT e yes no)).2.2 ≠ 5)
    (i5 : (compT (if (evalT e fun _ => none).1 = 0 then no else yes)).2.2 ≠ 5) :
    (compT (choiceT e yes no)).2.2 = (compT (if (evalT e fun _ => none).1 = 0 then no else yes)).2.2 ∧ (compT (choiceT e yes no)).1 = (compT (if (evalT e fun _ => none).1 = 0 then no else yes)).1 := by
  obtain ⟨x, hx⟩ : ∃ x, parseE e = some x := by
    unfold evalT at g0
    split at g0
    · cases g0
    · exact ⟨_, by assumption⟩
  obtain ⟨v, hv⟩ : ∃ v, x.eval (fun _ => none) = .ok v := by
    unfold evalT at g0
    rw [hx] at g0
    simp only at g0
    cases hv : x.eval (fun _ => none) with
    | ok v => exact ⟨v, rfl⟩
    | error er => rw [hv] at g0; have := eval_err hv; simp at g0; omega
  have hval : (evalT e fun _ => none).1 = v := by unfold evalT; rw [hx]; simp only [hv]
  rw [hval] at i5 ⊢
  have hlen : (choiceT e yes no).length ≤ 65536 := by unfold choiceT; simp [sIf, sElse, sEnd]; omega
  have hsig := sig_choice (yes := yes) (no := no) hx
  obtain ⟨by_, r1, o1, c1⟩ := compT_some (by omega) y4
  obtain ⟨bn, r2, o2, c2⟩ := compT_some (by omega) n4
  obtain ⟨bc, r3, o3, c3⟩ := compT_some hlen h4
  -- the choice is read
  let o0 : Opn := ⟨1, sIf, [], [x], [], [], false⟩
  have ha : addL 1 [sIf, e] start = some ⟨[], [o0]⟩ := by
    have hp : partsL sIf [e] = some ([], [x]) := by
      unfold partsL
      rw [if_neg (by decide), if_neg (by decide), if_pos rfl]
      unfold simpleL
      rw [if_neg (by simp)]
      simp [exprsL, hx]
    unfold addL
    simp only
    rw [if_neg (by decide), hp]
    simp only
    rw [if_pos (by decide), if_pos (by decide)]
    rfl
  have hr3 := r3
  rw [hsig] at hr3
  rw [rd, ha] at hr3
  simp only at hr3
  rw [rd_append] at hr3
  have hy1 : rd (sig (linesL yes)) ⟨[], [o0]⟩ = some ⟨[], [{ o0 with body := by_.top }]⟩ := by
    rcases emb_rd (T := []) (o := o0) (os := []) _ r1 with en | en
    · have : emb [] o0 [] start = ⟨[], [o0]⟩ := rfl
      rw [this] at en
      rw [en] at hr3
      cases hr3
    · have : emb [] o0 [] start = ⟨[], [o0]⟩ := rfl
      rw [this] at en
      rw [en]
      unfold emb Opn.putAll
      rw [o1]
      rfl
  rw [hy1] at hr3
  simp only at hr3
  let oE : Opn := { o0 with body := by_.top, hasOther := true }
  have hel : addL 1 [sElse] ⟨[], [{ o0 with body := by_.top }]⟩ = some ⟨[], [oE]⟩ := rfl
  rw [rd, hel] at hr3
  simp only at hr3
  rw [rd_append] at hr3
  have hn1 : rd (sig (linesL no)) ⟨[], [oE]⟩ = some ⟨[], [{ oE with other := bn.top }]⟩ := by
    rcases emb_rd (T := []) (o := oE) (os := []) _ r2 with en | en
    · have : emb [] oE [] start = ⟨[], [oE]⟩ := rfl
      rw [this] at en
      rw [en] at hr3
      cases hr3
    · have : emb [] oE [] start = ⟨[], [oE]⟩ := rfl
      rw [this] at en
      rw [en]
      unfold emb Opn.putAll
      rw [o2]
      rfl
  rw [hn1] at hr3
  simp only at hr3
  have hen : addL 1 [sEnd] ⟨[], [{ oE with other := bn.top }]⟩ = some ⟨[.mk 1 sIf [] [x] by_.top bn.top], []⟩ := rfl
  rw [rd, hen] at hr3
  simp only [rd] at hr3
  injection hr3 with hr3
  -- it is run
  have hrun : runL bc.top begun = runL (if v = 0 then bn.top else by_.top) { begun with steps := 1 } := by
    rw [← hr3]
    simp only [runL, runS]
    have hs : stepL 1 begun = .ok { begun with steps := 1 } := rfl
    rw [hs]
    have hev : evalAll begun.vars [x] = .ok [v] := by
      show evalAll (fun _ => none) [x] = _
      simp [evalAll, hv]
    simp only
    have hev' : evalAll ({ begun with steps := 1 } : Ran).vars [x] = .ok [v] := hev
    rw [hev']
    simp only
    rw [if_neg (by decide), if_neg (by decide), if_pos trivial]
    by_cases h0 : v = 0
    · rw [if_neg (by simp [h0]), if_pos h0]
      cases runL bn.top { begun with steps := 1 } <;> rfl
    · rw [if_pos (by simpa using h0), if_neg h0]
      cases runL by_.top { begun with steps := 1 } <;> rfl
  rw [hrun] at c3
  by_cases h0 : v = 0
  · rw [if_pos h0] at c3 i5 ⊢
    exact alike_law hlen (by omega) c3 c2 (runL_near rfl rfl) h5 i5
  · rw [if_neg h0] at c3 i5 ⊢
    exact alike_law hlen (by omega) c3 c1 (runL_near rfl rfl) h5 i5

/-! Number texts in a script; a loop and its body written once for each value. -/
structure NumText (num : Int → List UInt8) : Prop where
  ok : ∀ n, Within n → ∃ x, parseE (num n) = some x ∧ ∀ σ, x.eval σ = .ok n
  bad : ∀ n, ¬ Within n → parseE (num n) = none
  clean : ∀ n, 32 ∉ num n ∧ 10 ∉ num n ∧ num n ≠ []
  short : ∀ n, -9223372036854775808 ≤ n → n ≤ 9223372036854775807 → (num n).length ≤ 40
def loopText (num : Int → List UInt8) (body : List UInt8) (a b : Int) : List UInt8 := sFor ++ 32 :: 105 :: 32 :: (num a ++ 32 :: (num b ++ 10 :: (body ++ 10 :: (sEnd ++ [10]))))
def oneText (num : Int → List UInt8) (body : List UInt8) (v : Int) : List UInt8 := sLet ++ 32 :: 105 :: 32 :: (num v ++ 10 :: (body ++ [10]))
def lineText (num : Int → List UInt8) (body : List UInt8) : Nat → Int → List UInt8
  | 0, _ => []
  | k + 1, v => oneText num body v ++ lineText num body k (v + 1)

theorem cutAt_skip {b : UInt8} {x y : List UInt8} (h : b ∉ x) : cutAt b (x ++ b :: y) = x :: cutAt b y := by rw [cutAt_append, cutAt_none h]; rfl
theorem sig_cut (x y : List UInt8) : sig (cutAt 10 (x ++ 10 :: y)) = sig (cutAt 10 x) ++ sig (cutAt 10 y) := by rw [cutAt_append, sig_append]
theorem sig_one {x : List UInt8} (h : 10 ∉ x) (hw : idle (wordsL x) = false) (y : List UInt8) : sig (cutAt 10 (x ++ 10 :: y)) = wordsL x :: sig (cutAt 10 y) := by
  rw [cutAt_skip h, sig_busy hw]
theorem words_let {num : Int → List UInt8} (hn : NumText num) (v : Int) : wordsL (sLet ++ 32 :: 105 :: 32 :: num v) = [sLet, [105], num v] := by
  rw [wordsL_more (by decide) (by decide), show (105 :: 32 :: num v : List UInt8) = [105] ++ 32 :: num v from rfl, wordsL_more (by decide) (by decide), wordsL_last (hn.clean v).1 (hn.clean v).2.2]
theorem words_for {num : Int → List UInt8} (hn : NumText num) (a b : Int) : wordsL (sFor ++ 32 :: 105 :: 32 :: (num a ++ 32 :: num b)) = [sFor, [105], num a, num b] := by
  rw [wordsL_more (by decide) (by decide), show (105 :: 32 :: (num a ++ 32 :: num b) : List UInt8) = [105] ++ 32 :: (num a ++ 32 :: num b) from rfl, wordsL_more (by decide) (by decide), wordsL_more (hn.clean a).1 (hn.clean a).2.2, wordsL_last (hn.clean b).1 (hn.clean b).2.2]
theorem sig_loop {num : Int → List UInt8} (hn : NumText num) (body : List UInt8) (a b : Int) : sig (linesL (loopText num body a b)) = [sFor, [105], num a, num b] :: (sig (linesL body) ++ [[sEnd]]) := by
  rw [sig_lines, sig_lines]
  unfold loopText
  rw [show sFor ++ 32 :: 105 :: 32 :: (num a ++ 32 :: (num b ++ 10 :: (body ++ 10 :: (sEnd ++ [10])))) = (sFor ++ 32 :: 105 :: 32 :: (num a ++ 32 :: num b)) ++ 10 :: (body ++ 10 :: (sEnd ++ 10 :: [])) by simp]
  have h10 : 10 ∉ sFor ++ 32 :: 105 :: 32 :: (num a ++ 32 :: num b) := by
    intro hm
    simp only [List.mem_append, List.mem_cons] at hm
    rcases hm with hm | hm | hm | hm | hm | hm | hm
    · revert hm; decide
    · revert hm; decide
    · revert hm; decide
    · revert hm; decide
    · exact (hn.clean a).2.1 hm
    · revert hm; decide
    · exact (hn.clean b).2.1 hm
  rw [sig_one h10 (by rw [words_for hn]; simp [idle, sFor]), words_for hn, sig_cut, sig_one (by decide) (by decide)]
  rfl
theorem sig_oneText {num : Int → List UInt8} (hn : NumText num) (body : List UInt8) (v : Int) (y : List UInt8) : sig (cutAt 10 (oneText num body v ++ y)) = [sLet, [105], num v] :: (sig (linesL body) ++ sig (cutAt 10 y)) := by
  rw [sig_lines]
  unfold oneText
  rw [show sLet ++ 32 :: 105 :: 32 :: (num v ++ 10 :: (body ++ [10])) ++ y = (sLet ++ 32 :: 105 :: 32 :: num v) ++ 10 :: (body ++ 10 :: y) by simp]
  have h10 : 10 ∉ sLet ++ 32 :: 105 :: 32 :: num v := by
    intro hm
    simp only [List.mem_append, List.mem_cons] at hm
    rcases hm with hm | hm | hm | hm | hm
    · revert hm; decide
    · revert hm; decide
    · revert hm; decide
    · revert hm; decide
    · exact (hn.clean v).2.1 hm
  rw [sig_one h10 (by rw [words_let hn]; simp [idle, sLet]), words_let hn, sig_cut]

def numEx (num : Int → List UInt8) (v : Int) : Ex := (parseE (num v)).getD (.num 0)
theorem numEx_of {num : Int → List UInt8} (hn : NumText num) {v : Int} (hv : Within v) : parseE (num v) = some (numEx num v) ∧ ∀ σ, (numEx num v).eval σ = .ok v := by
  obtain ⟨x, h1, h2⟩ := hn.ok v hv
  unfold numEx
  rw [h1]
  exact ⟨rfl, h2⟩
def unrolled (num : Int → List UInt8) (BT : List Stm) : Nat → Int → List Stm
  | 0, _ => []
  | k + 1, v => .mk 1 sLet [105] [numEx num v] [] [] :: (BT ++ unrolled num BT k (v + 1))
theorem rd_lines {num : Int → List UInt8} (hn : NumText num) {body : List UInt8} {BT : List Stm} (hb : rd (sig (linesL body)) start = some ⟨BT, []⟩) : ∀ (k : Nat) (v : Int) (T : List Stm), (∀ j : Nat, j < k → Within (v + j)) →
    rd (sig (cutAt 10 (lineText num body k v))) ⟨T, []⟩ = some ⟨T ++ unrolled num BT k v, []⟩
  | 0, v, T, _ => by
    have : sig (cutAt 10 (lineText num body 0 v)) = [] := by rw [lineText]; decide
    rw [this]
    unfold unrolled
    rw [List.append_nil]; rfl
  | k + 1, v, T, hw => by
    have hv : Within v := by have := hw 0 (by omega); simpa using this
    obtain ⟨h1, h2⟩ := numEx_of hn hv
    rw [lineText, sig_oneText hn, rd_cons]
    have ha : addL 1 [sLet, [105], num v] ⟨T, []⟩ = some ⟨T ++ [.mk 1 sLet [105] [numEx num v] [] []], []⟩ := by
      have hp : partsL sLet [[105], num v] = some ([105], [numEx num v]) := by
        unfold partsL
        rw [if_pos rfl]
        unfold namedL
        simp only
        rw [if_pos ⟨rfl, by decide⟩]
        simp [exprsL, h1]
      unfold addL
      simp only
      rw [if_neg (by decide), hp]
      simp only
      rw [if_neg (by decide)]
      rfl
    rw [ha]
    simp only
    rw [rd_append]
    have hpre := pre_rd (T := T ++ [.mk 1 sLet [105] [numEx num v] [] []]) _ hb
    have e0 : pre (T ++ [.mk 1 sLet [105] [numEx num v] [] []]) start = ⟨T ++ [.mk 1 sLet [105] [numEx num v] [] []], []⟩ := by unfold pre start; simp
    rw [e0] at hpre
    rw [hpre]
    simp only [pre]
    rw [rd_lines hn hb k (v + 1) _ (fun j hj => by have := hw (j + 1) (by omega); rw [show v + 1 + (j : Int) = v + ((j + 1 : Nat) : Int) by omega]; exact this)]
    rw [unrolled]
    simp
theorem run_unrolled {num : Int → List UInt8} (hn : NumText num) (BT : List Stm) : ∀ (k : Nat) (v hi : Int) (F : Nat) (s s' : Ran), k ≤ F → hi = v + k - 1 → (∀ j : Nat, j < k → Within (v + j)) → Near false s s' →
    Alike false (loopL (fun r => runL BT r) 1 [105] F v hi s) (runL (unrolled num BT k v) s')
  | 0, v, hi, F, s, s', _, he, _, h => by
    have h0 : loopL (fun r => runL BT r) 1 [105] F v hi s = .ok s := by
      cases F with
      | zero => rfl
      | succ F => rw [loopL, if_neg (by omega)]
    rw [h0, unrolled, runL_nil]
    exact .ok h
  | k + 1, v, hi, F + 1, s, s', hk, he, hw, h => by
    have hv : Within v := by have := hw 0 (by omega); simpa using this
    obtain ⟨h1, h2⟩ := numEx_of hn hv
    rw [loopL, if_pos (by omega), unrolled, runL_cons, runS]
    have hR : (match (match stepL 1 s' with
        | .error e => .error e
        | .ok s1 => match evalAll s1.vars [numEx num v] with
          | .error e => .error (e, 1)
          | .ok v => if sLet = sLet then .ok { s1 with vars := upd s1.vars [105] (v.getD 0 0) }
            else if sLet = sFor then loopL (fun r => runL [] r) 1 [105] 16385 (v.getD 0 0) (v.getD 1 0) s1
            else if sLet = sIf then (if v.getD 0 0 ≠ 0 then runL [] s1 else runL [] s1)
            else if s1.acts.length = 4096 then .error (5, 1)
            else .ok { s1 with acts := s1.acts ++ [makeActL (actOfL sLet) v] } : Res) with
        | .error e => .error e
        | .ok s1 => runL (BT ++ unrolled num BT k (v + 1)) s1) =
        (match stepL 1 s' with
        | .error e => .error e
        | .ok s1 => match runL BT { s1 with vars := upd s1.vars [105] v } with
          | .error e => .error e
          | .ok s2 => runL (unrolled num BT k (v + 1)) s2 : Res) := by
      cases stepL 1 s' with
      | error e => rfl
      | ok s1 =>
        simp only [evalAll, h2, if_true, List.getD_cons_zero]
        rw [runL_append]
    rw [hR]
    refine (stepL_alike Iff.rfl h).bind fun a a' ha => ?_
    have hset : Near false { a with vars := upd a.vars [105] v } { a' with vars := upd a'.vars [105] v } := ⟨by simp only [ha.vars], ha.acts, fun h => by cases h⟩
    refine (runL_alike false BT BT (simL_refl BT) _ _ hset).bind fun b b' hb => ?_
    exact run_unrolled hn BT k (v + 1) hi F b b' (by omega) (by omega) (fun j hj => by have := hw (j + 1) (by omega); rw [show v + 1 + (j : Int) = v + ((j + 1 : Nat) : Int) by omega]; exact this) hb
theorem lineText_len {num : Int → List UInt8} (hn : NumText num) {body : List UInt8} (hb : body.length ≤ 1000) : ∀ (k : Nat) (v : Int), -maxValue ≤ v → v + k ≤ maxValue + 1 → (lineText num body k v).length ≤ k * 1100
  | 0, v, _, _ => by simp [lineText]
  | k + 1, v, h1, h2 => by
    have := lineText_len hn hb k (v + 1) (by omega) (by omega)
    have := hn.short v (by unfold maxValue at *; omega) (by unfold maxValue at *; omega)
    rw [lineText, oneText]
    simp [sLet]; omega

/-- What the law ScriptUnrolled asks, in plain words. -/
theorem unrolled_law {num : Int → List UInt8} (hn : NumText num) {body : List UInt8} {a : Int} {k : Nat} (hb : body.length ≤ 1000) (ha : Within a) (ha' : Within (a + 20)) (hk : k ≤ 20)
    (e4 : (compT body).2.2 ≠ 4) (f5 : (compT (loopText num body a (a + k - 1))).2.2 ≠ 5) (g5 : (compT (lineText num body k a)).2.2 ≠ 5) (f4 : (compT (loopText num body a (a + k - 1))).2.2 ≠ 4) :
    (compT (loopText num body a (a + k - 1))).2.2 = (compT (lineText num body k a)).2.2 ∧ (compT (loopText num body a (a + k - 1))).1 = (compT (lineText num body k a)).1 := by
  have hlen : (loopText num body a (a + k - 1)).length ≤ 65536 := by
    unfold Within maxValue at ha ha'
    have := hn.short a (by omega) (by omega); have := hn.short (a + k - 1) (by omega) (by omega)
    unfold loopText; simp [sFor, sEnd]; omega
  have hlen2 : (lineText num body k a).length ≤ 65536 := by unfold Within at ha ha'; have := lineText_len hn hb k a (by omega) (by omega); omega
  obtain ⟨b, r1, o1, c1⟩ := compT_some (by omega) e4
  obtain ⟨bc, r3, o3, c3⟩ := compT_some hlen f4
  have r1' : rd (sig (linesL body)) start = some ⟨b.top, []⟩ := by rw [r1]; cases b; simp only at o1; rw [o1]
  have hwall : ∀ j : Nat, j < k → Within (a + j) := fun j hj => by unfold Within at *; omega
  have hr2 := rd_lines hn r1' k a [] hwall
  have c2 : compC (sig (linesL (lineText num body k a))) = some (runL (unrolled num b.top k a) begun) := by
    unfold compC
    rw [sig_lines]
    have : (⟨[], []⟩ : Bld) = start := rfl
    rw [this] at hr2
    rw [hr2]
    simp
  have hsig := sig_loop hn body a (a + k - 1)
  have hr3 := r3
  rw [hsig, rd_cons] at hr3
  obtain ⟨p1, p2⟩ := numEx_of hn ha
  have hw1 : Within (a + k - 1) := by
    by_cases hw : Within (a + k - 1)
    · exact hw
    · have hbad := hn.bad _ hw
      have : addL 1 [sFor, [105], num a, num (a + k - 1)] start = none := by
        have hp : partsL sFor [[105], num a, num (a + k - 1)] = none := by
          unfold partsL
          rw [if_neg (by decide), if_pos rfl]
          unfold namedL
          simp only
          rw [if_pos ⟨rfl, by decide⟩]
          simp [exprsL, p1, hbad]
        unfold addL
        simp only
        rw [if_neg (by decide), hp]
      rw [this] at hr3
      cases hr3
  obtain ⟨q1, q2⟩ := numEx_of hn hw1
  let o0 : Opn := ⟨1, sFor, [105], [numEx num a, numEx num (a + k - 1)], [], [], false⟩
  have ha0 : addL 1 [sFor, [105], num a, num (a + k - 1)] start = some ⟨[], [o0]⟩ := by
    have hp : partsL sFor [[105], num a, num (a + k - 1)] = some ([105], [numEx num a, numEx num (a + k - 1)]) := by
      unfold partsL
      rw [if_neg (by decide), if_pos rfl]
      unfold namedL
      simp only
      rw [if_pos ⟨rfl, by decide⟩]
      simp [exprsL, p1, q1]
    unfold addL
    simp only
    rw [if_neg (by decide), hp]
    simp only
    rw [if_pos (by decide), if_pos (by decide)]
    rfl
  rw [ha0] at hr3
  simp only at hr3
  rw [rd_append] at hr3
  have hy1 : rd (sig (linesL body)) ⟨[], [o0]⟩ = some ⟨[], [{ o0 with body := b.top }]⟩ := by
    rcases emb_rd (T := []) (o := o0) (os := []) _ r1' with en | en
    · have : emb [] o0 [] start = ⟨[], [o0]⟩ := rfl
      rw [this] at en
      rw [en] at hr3
      cases hr3
    · have : emb [] o0 [] start = ⟨[], [o0]⟩ := rfl
      rw [this] at en
      rw [en]
      rfl
  rw [hy1] at hr3
  simp only at hr3
  have hen : addL 1 [sEnd] ⟨[], [{ o0 with body := b.top }]⟩ = some ⟨[.mk 1 sFor [105] [numEx num a, numEx num (a + k - 1)] b.top []], []⟩ := rfl
  rw [rd_cons, hen] at hr3
  simp only [rd_nil] at hr3
  injection hr3 with hr3
  have hrun : runL bc.top begun = loopL (fun r => runL b.top r) 1 [105] 16385 a (a + k - 1) { begun with steps := 1 } := by
    rw [← hr3]
    simp only
    rw [runL_cons, runS]
    have hs : stepL 1 begun = .ok { begun with steps := 1 } := rfl
    rw [hs]
    simp only [evalAll, p2, q2, List.getD_cons_zero, List.getD_cons_succ]
    rw [if_neg (by decide), if_pos trivial]
    cases loopL (fun r => runL b.top r) 1 [105] 16385 a (a + k - 1) { begun with steps := 1 } with
    | error e => rfl
    | ok s => simp only [runL_nil]
  rw [hrun] at c3
  exact alike_law hlen hlen2 c3 c2 (run_unrolled hn b.top k a _ 16385 _ _ (by omega) rfl hwall ⟨rfl, rfl, fun h => by cases h⟩) f5 g5

/-! The decimal text of an int, read as an expression. -/
open Go.Lib in
theorem decDigits_app {u : Nat} (h : ¬ u < 10) : decDigits u = decDigits (u / 10) ++ [UInt8.ofNat (48 + u % 10)] := by rw [decDigits, dif_neg h]
open Go.Lib in
theorem decDigits_small {u : Nat} (h : u < 10) : decDigits u = [UInt8.ofNat (48 + u)] := by rw [decDigits, dif_pos h]
theorem digit_nat {d : Nat} (h : d < 10) : (UInt8.ofNat (48 + d)).toNat = 48 + d := by rw [UInt8.toNat_ofNat']; omega
theorem digit_is {d : Nat} (h : d < 10) : isDig (UInt8.ofNat (48 + d)) = true := by
  unfold isDig
  have := digit_nat h
  simp only [Bool.and_eq_true, decide_eq_true_eq, UInt8.le_iff_toNat_le, this]
  constructor
  · show 48 ≤ 48 + d; omega
  · show 48 + d ≤ 57; omega
theorem numOf_snoc (l : List UInt8) (c : UInt8) : numOf (l ++ [c]) = 10 * numOf l + (c.toNat - 48) := by unfold numOf; simp
open Go.Lib in
theorem decDigits_facts : ∀ (u : Nat), (∀ c ∈ decDigits u, isDig c = true) ∧ numOf (decDigits u) = u ∧ (∃ c t, decDigits u = c :: t ∧ (c = 48 → u = 0 ∧ t = [])) := by
  intro u
  induction u using Nat.strongRecOn with
  | ind u ih =>
    by_cases h : u < 10
    · rw [decDigits_small h]
      refine ⟨by intro c hc; rw [List.mem_singleton.1 hc]; exact digit_is h, ?_, _, _, rfl, ?_⟩
      · have := digit_nat h
        simp [numOf]; omega
      · intro hc
        have := digit_nat h
        rw [hc] at this
        exact ⟨by have h48 : (48 : UInt8).toNat = 48 := rfl
                  omega, rfl⟩
    · obtain ⟨h1, h2, c, t, h3, h4⟩ := ih (u / 10) (by omega)
      have hd : u % 10 < 10 := Nat.mod_lt _ (by decide)
      rw [decDigits_app h]
      refine ⟨?_, ?_, c, t ++ [UInt8.ofNat (48 + u % 10)], by rw [h3]; rfl, ?_⟩
      · intro d hm
        rcases List.mem_append.1 hm with hm | hm
        · exact h1 d hm
        · rw [List.mem_singleton.1 hm]; exact digit_is hd
      · rw [numOf_snoc, h2, digit_nat hd]; omega
      · intro hc; have := (h4 hc).1; omega
theorem taken_all {p : UInt8 → Bool} {r : List UInt8} (h : ∀ c ∈ r, p c = true) : taken p r = (r, []) := by
  unfold taken
  induction r with
  | nil => rfl
  | cons c r ih =>
    have := ih (fun d hd => h d (by simp [hd]))
    simp only [Prod.mk.injEq] at this
    simp [h c (by simp), this.1, this.2]
open Go.Lib in
theorem prim_dec (inner : Option Reads) (u : Nat) : primE inner (decDigits u) = if u > 9007199254740992 then none else some (.num u, []) := by
  obtain ⟨h1, h2, c, t, h3, h4⟩ := decDigits_facts u
  have ht := taken_all h1
  rw [h3] at h1 h2 ht ⊢
  unfold primE
  simp only
  rw [if_pos (h1 c (by simp)), ht]
  simp only [h2]
  by_cases hu : u > 9007199254740992
  · rw [if_pos (.inr hu), if_pos hu]
  · rw [if_neg hu, if_neg]
    rintro (⟨hc, hl⟩ | h)
    · rw [(h4 hc).2] at hl; simp at hl
    · exact hu h
theorem levelE_none {ops : List UInt8} {sv : Bool} {sub : Reads} {r : List UInt8} (h : sub r = none) : levelE ops sv sub r = none := by unfold levelE; rw [h]
theorem binaryE_none {f : Reads} {r : List UInt8} (h : f r = none) : ∀ l, binaryE f l r = none
  | [] => h
  | _ :: ls => levelE_none (binaryE_none h ls)
instance (n : Int) : Decidable (Within n) := by unfold Within; exact inferInstance
def numX (n : Int) : Ex := if n < 0 then .neg 1 (.num n.natAbs) else .num n.toNat
theorem numX_eval {n : Int} (h : Within n) (σ : List UInt8 → Option Int) : (numX n).eval σ = .ok n := by
  unfold numX
  split
  · simp only [Ex.eval]
    rw [if_pos trivial]
    have e : -((n.natAbs : Nat) : Int) = n := by omega
    rw [e]; exact small_within h
  · simp only [Ex.eval]
    exact congrArg Except.ok (by omega)
open Go.Lib in
theorem sign_itoa (n : Int) : sign16 (itoa n) = if Within n then some (numX n, []) else none := by
  unfold itoa
  by_cases hn : n < 0
  · rw [if_pos hn]
    obtain ⟨h1, h2, c, t, h3, h4⟩ := decDigits_facts n.natAbs
    have hc : (c == 45) = false := by
      have hd := h1 c (by rw [h3]; simp)
      cases h : c == 45 with
      | false => rfl
      | true => have : c = 45 := by simpa using h
                subst this; exact absurd hd (by decide)
    unfold sign16 signE
    have ht : taken (· == 45) (45 :: decDigits n.natAbs) = ([45], decDigits n.natAbs) := by
      rw [h3]; unfold taken; simp [hc]
    rw [ht]
    simp only
    rw [prim_dec]
    by_cases hw : Within n
    · rw [if_pos hw, if_neg (by unfold Within maxValue at hw; omega)]
      unfold numX; rw [if_pos hn]; rfl
    · rw [if_neg hw, if_pos (by unfold Within maxValue at hw; omega)]
  · rw [if_neg hn]
    obtain ⟨h1, h2, c, t, h3, h4⟩ := decDigits_facts n.toNat
    have hc : (c == 45) = false := by
      have hd := h1 c (by rw [h3]; simp)
      cases h : c == 45 with
      | false => rfl
      | true => have : c = 45 := by simpa using h
                subst this; exact absurd hd (by decide)
    have hs : sign16 (decDigits n.toNat) = primE (some (exprE 15)) (decDigits n.toNat) := by rw [h3, sign16, signE_none hc]
    rw [hs, prim_dec]
    by_cases hw : Within n
    · rw [if_pos hw, if_neg (by unfold Within maxValue at hw; omega)]
      unfold numX; rw [if_neg hn]
    · rw [if_neg hw, if_pos (by unfold Within maxValue at hw; omega)]
open Go.Lib in
theorem parse_itoa (n : Int) : parseE (itoa n) = if Within n then some (numX n) else none := by
  have h := sign_itoa n
  by_cases hw : Within n
  · rw [if_pos hw] at h ⊢
    exact parseE_of (by rw [exprE_16]; exact binaryE_stop h _ (.inl rfl))
  · rw [if_neg hw] at h ⊢
    unfold parseE
    rw [exprE_16, binaryE_none h]
open Go.Lib in
theorem decDigits_len : ∀ (k u : Nat), u < 10 ^ (k + 1) → (decDigits u).length ≤ k + 1
  | 0, u, h => by rw [decDigits_small (by simpa using h)]; simp
  | k + 1, u, h => by
    by_cases h' : u < 10
    · rw [decDigits_small h']; simp
    · rw [decDigits_app h']
      have := decDigits_len k (u / 10) (by rw [Nat.pow_succ] at h; omega)
      simp; omega
open Go.Lib in
theorem itoa_text : NumText itoa := by
  have hcl : ∀ u, 32 ∉ decDigits u ∧ 10 ∉ decDigits u ∧ decDigits u ≠ [] := by
    intro u
    obtain ⟨h1, h2, c, t, h3, h4⟩ := decDigits_facts u
    exact ⟨fun h => absurd (h1 _ h) (by decide), fun h => absurd (h1 _ h) (by decide), by rw [h3]; simp⟩
  refine ⟨?_, ?_, ?_, ?_⟩
  · intro n h
    exact ⟨numX n, by rw [parse_itoa, if_pos h], numX_eval h⟩
  · intro n h
    rw [parse_itoa, if_neg h]
  · intro n
    unfold itoa
    split
    · have := hcl n.natAbs
      exact ⟨by simp [this.1], by simp [this.2.1], by simp⟩
    · exact hcl _
  · intro n h1 h2
    unfold itoa
    split
    · have := decDigits_len 19 n.natAbs (by omega)
      simp; omega
    · have := decDigits_len 19 n.toNat (by omega)
      omega

/-! The line of an act, compiled. -/
def lineT (word : List UInt8) (l : List Int) : List UInt8 := word ++ l.flatMap fun n => 32 :: Go.Lib.itoa n
def wordOf (k : Nat) : List UInt8 := (actWords.getD (k - 1) ([], 0)).1
def fieldsOf (k : Nat) : Nat := (actWords.getD (k - 1) ([], 0)).2
/-- The line of an act with this kind, these five fields and this list, and the error. -/
def textT (kind : Int) (f keep : List Int) : List UInt8 × Int :=
  if kind < 1 ∨ kind > 17 then ([], 2)
  else if (f.drop (fieldsOf kind.toNat)).all (· = 0) then
    if kind = 17 then (if keep.length ≤ 16 then (lineT (wordOf 17) keep, 0) else ([], 2))
    else if keep.length = 0 then (lineT (wordOf kind.toNat) (f.take (fieldsOf kind.toNat)), 0) else ([], 2)
  else ([], 2)

theorem words_fact : ∀ i : Fin 17, (32 ∉ wordOf (i + 1) ∧ 10 ∉ wordOf (i + 1) ∧ wordOf (i + 1) ≠ [] ∧ (wordOf (i + 1)).headD 0 ≠ 35) ∧ (wordOf (i + 1) ≠ sElse ∧ wordOf (i + 1) ≠ sEnd ∧ wordOf (i + 1) ≠ sLet ∧ wordOf (i + 1) ≠ sFor ∧ wordOf (i + 1) ≠ sIf) ∧ actOfL (wordOf (i + 1)) = i + 1 ∧ fieldsOf (i + 1) ≤ 5 := by decide
theorem word_fact {k : Nat} (h1 : 1 ≤ k) (h2 : k ≤ 17) : (32 ∉ wordOf k ∧ 10 ∉ wordOf k ∧ wordOf k ≠ [] ∧ (wordOf k).headD 0 ≠ 35) ∧ (wordOf k ≠ sElse ∧ wordOf k ≠ sEnd ∧ wordOf k ≠ sLet ∧ wordOf k ≠ sFor ∧ wordOf k ≠ sIf) ∧ actOfL (wordOf k) = k ∧ fieldsOf k ≤ 5 := by
  have := words_fact ⟨k - 1, by omega⟩
  simp only at this
  rw [show k - 1 + 1 = k by omega] at this
  exact this
theorem words_line (w : List UInt8) (h32 : 32 ∉ w) (hn : w ≠ []) (l : List Int) : wordsL (lineT w l) = w :: l.map Go.Lib.itoa := by
  induction l generalizing w with
  | nil => unfold lineT; simp [wordsL_last h32 hn]
  | cons n l ih =>
    have e : lineT w (n :: l) = w ++ 32 :: lineT (Go.Lib.itoa n) l := by unfold lineT; simp
    rw [e, wordsL_more h32 hn, ih _ (itoa_text.clean n).1 (itoa_text.clean n).2.2]
    rfl
theorem line_clean (w : List UInt8) (h : 10 ∉ w) (l : List Int) : 10 ∉ lineT w l := by
  unfold lineT
  intro hm
  rcases List.mem_append.1 hm with hm | hm
  · exact h hm
  · obtain ⟨n, _, hm⟩ := List.mem_flatMap.1 hm
    rcases List.mem_cons.1 hm with hm | hm
    · revert hm; decide
    · exact (itoa_text.clean n).2.1 hm
theorem exprs_itoa : ∀ l : List Int, exprsL (l.map Go.Lib.itoa) = if (∀ n ∈ l, Within n) then some (l.map numX) else none
  | [] => by simp [exprsL]
  | n :: l => by
    rw [List.map_cons, exprsL, parse_itoa, exprs_itoa l]
    by_cases h1 : Within n
    · rw [if_pos h1]
      simp only
      by_cases h2 : ∀ m ∈ l, Within m
      · rw [if_pos h2, if_pos (by simpa [h1] using h2)]; rfl
      · rw [if_neg h2, if_neg (by intro h; exact h2 fun m hm => h m (by simp [hm]))]
    · rw [if_neg h1]
      simp only
      rw [if_neg (by intro h; exact h1 (h n (by simp)))]
theorem evalAll_numX (σ : List UInt8 → Option Int) : ∀ l : List Int, (∀ n ∈ l, Within n) → evalAll σ (l.map numX) = .ok l
  | [], _ => rfl
  | n :: l, h => by
    rw [List.map_cons, evalAll, numX_eval (h n (by simp))]
    simp only
    rw [evalAll_numX σ l fun m hm => h m (by simp [hm])]
theorem lineT_len (w : List UInt8) : ∀ l : List Int, (∀ n ∈ l, -9223372036854775808 ≤ n ∧ n ≤ 9223372036854775807) → (lineT w l).length ≤ w.length + l.length * 41
  | [], _ => by simp [lineT]
  | n :: l, h => by
    have ih := lineT_len w l fun m hm => h m (by simp [hm])
    have := itoa_text.short n (h n (by simp)).1 (h n (by simp)).2
    unfold lineT at *
    simp at ih ⊢; omega
/-- A line of a word of an act and so many numbers as it has, compiled. -/
theorem line_comp {k : Nat} (h1 : 1 ≤ k) (h2 : k ≤ 17) {l : List Int} (hl : if k = 17 then l.length ≤ 16 else l.length = fieldsOf k) (hi : ∀ n ∈ l, -9223372036854775808 ≤ n ∧ n ≤ 9223372036854775807) :
    compT (lineT (wordOf k) l) = if ∀ n ∈ l, Within n then ([makeActL k l], 0, 0) else ([], 1, 4) := by
  obtain ⟨⟨w1, w2, w3, w4⟩, ⟨w5, w6, w7, w8, w9⟩, w10, w11⟩ := word_fact h1 h2
  have hlen : (lineT (wordOf k) l).length ≤ 65536 := by
    have := lineT_len (wordOf k) l hi
    have hw : (wordOf k).length ≤ 9 := by
      have : ∀ i : Fin 17, (wordOf (i + 1)).length ≤ 9 := by decide
      have := this ⟨k - 1, by omega⟩
      simp only at this
      rwa [show k - 1 + 1 = k by omega] at this
    have : l.length ≤ 16 := by split at hl <;> omega
    omega
  have hcut : cutAt 10 (lineT (wordOf k) l) = [lineT (wordOf k) l] := cutAt_none (line_clean _ w2 l)
  have hne : lineT (wordOf k) l ≠ [] := by unfold lineT; intro e; exact w3 (List.append_eq_nil_iff.1 e).1
  have hlines : linesL (lineT (wordOf k) l) = [lineT (wordOf k) l] := by
    unfold linesL
    rw [hcut]
    simp [hne]
  have hp : partsL (wordOf k) (l.map Go.Lib.itoa) = if ∀ n ∈ l, Within n then some ([], l.map numX) else none := by
    unfold partsL
    rw [if_neg w7, if_neg w8, if_neg w9, w10]
    simp only
    rw [if_neg (by omega)]
    have key : ∀ a b : Nat, a ≤ l.length → l.length ≤ b → simpleL (l.map Go.Lib.itoa) a b = if ∀ n ∈ l, Within n then some ([], l.map numX) else none := by
      intro a b ha hb
      unfold simpleL
      rw [List.length_map, if_neg (by omega), exprs_itoa]
      split <;> rfl
    by_cases hk : k = 17
    · rw [if_pos hk]; rw [if_pos hk] at hl; exact key _ _ (Nat.zero_le _) hl
    · rw [if_neg hk]; rw [if_neg hk] at hl
      exact key _ _ (by rw [hl]; exact Nat.le_refl _) (by rw [hl]; exact Nat.le_refl _)
  have ha : addL 1 (wordOf k :: l.map Go.Lib.itoa) start = if ∀ n ∈ l, Within n then some ⟨[.mk 1 (wordOf k) [] (l.map numX) [] []], []⟩ else none := by
    unfold addL
    simp only
    rw [if_neg (by simp [w5, w6]), hp]
    by_cases hw : ∀ n ∈ l, Within n
    · rw [if_pos hw, if_pos hw]
      simp only
      rw [if_neg (by simp [w8, w9])]
      rfl
    · rw [if_neg hw, if_neg hw]
  unfold compT compileL
  rw [if_neg (by omega), hlines]
  simp only [readL]
  rw [words_line _ w1 w3, if_neg (by rintro (h | h) <;> first | cases h | exact w4 h)]
  rw [show 0 + 1 = 1 from rfl]
  have hst : (⟨[], []⟩ : Bld) = start := rfl
  rw [hst, ha]
  by_cases hw : ∀ n ∈ l, Within n
  · rw [if_pos hw, if_pos hw]
    simp only
    rw [if_neg (by simp), runL_cons, runS]
    have hs : stepL 1 ⟨fun _ => none, 0, []⟩ = .ok ⟨fun _ => none, 1, []⟩ := rfl
    rw [hs]
    simp only [evalAll_numX _ l hw]
    rw [if_neg w7, if_neg w8, if_neg w9, if_neg (by decide), w10]
    simp only [runL_nil]
    rfl
  · rw [if_neg hw, if_neg hw]

/-- What the law ScriptCompiled asks, in plain words. -/
theorem compiled_law {kind : Int} {f keep s : List Int} {t : List UInt8} (hf : f.length = 5) (h : textT kind f keep = (t, 0))
    (hi : ∀ n ∈ f ++ keep, -9223372036854775808 ≤ n ∧ n ≤ 9223372036854775807) :
    compT t = if ∀ n ∈ f ++ keep, Within n then ([⟨kind.toNat, f, keep⟩], 0, 0) else ([], 1, 4) := by
  unfold textT at h
  split at h
  · cases h
  rename_i hk
  have h1 : 1 ≤ kind.toNat := by omega
  have h2 : kind.toNat ≤ 17 := by omega
  split at h
  · rename_i hz
    split at h
    · rename_i h17
      split at h
      · rename_i hl
        injection h with h _
        subst h
        have e17 : kind.toNat = 17 := by omega
        rw [e17] at hz
        have hz' : ∀ n ∈ f, n = 0 := by
          have : fieldsOf 17 = 0 := by decide
          rw [this, List.drop_zero] at hz
          simpa using hz
        rw [line_comp (k := 17) (by omega) (by omega) (by rw [if_pos rfl]; exact hl) (fun n hn => hi n (by simp [hn])), e17]
        have hf0 : f = [0, 0, 0, 0, 0] := by
          rcases f with _ | ⟨a, _ | ⟨b, _ | ⟨c, _ | ⟨d, _ | ⟨e, _ | ⟨g, f⟩⟩⟩⟩⟩⟩ <;> simp at hf
          simp at hz'
          simp [hz']
        have hiff : (∀ n ∈ f ++ keep, Within n) ↔ ∀ n ∈ keep, Within n := by
          constructor
          · intro h n hn; exact h n (by simp [hn])
          · intro h n hn
            rcases List.mem_append.1 hn with hn | hn
            · rw [hz' n hn]; unfold Within maxValue; omega
            · exact h n hn
        simp only [hiff]
        rw [hf0]
        rfl
      · cases h
    · rename_i h17
      split at h
      · rename_i hl
        injection h with h _
        subst h
        have hkeep : keep = [] := List.eq_nil_of_length_eq_zero hl
        have hw := (word_fact h1 h2).2.2.2
        have hz' : ∀ n ∈ f.drop (fieldsOf kind.toNat), n = 0 := by simpa using hz
        rw [line_comp h1 h2 (by rw [if_neg (by omega), List.length_take]; omega) (fun n hn => hi n (by simp [List.mem_of_mem_take hn]))]
        have hiff : (∀ n ∈ f ++ keep, Within n) ↔ ∀ n ∈ f.take (fieldsOf kind.toNat), Within n := by
          rw [hkeep, List.append_nil]
          constructor
          · intro h n hn; exact h n (List.mem_of_mem_take hn)
          · intro h n hn
            rw [← List.take_append_drop (fieldsOf kind.toNat) f] at hn
            rcases List.mem_append.1 hn with hn | hn
            · exact h n hn
            · rw [hz' n hn]; unfold Within maxValue; omega
        simp only [hiff]
        have hm : makeActL kind.toNat (f.take (fieldsOf kind.toNat)) = ⟨kind.toNat, f, keep⟩ := by
          unfold makeActL
          rw [if_neg (by omega), hkeep]
          congr 1
          have hd : f.drop (fieldsOf kind.toNat) = List.replicate (5 - fieldsOf kind.toNat) 0 := by
            rw [List.eq_replicate_iff]
            exact ⟨by rw [List.length_drop, hf], hz'⟩
          have hx : f = f.take (fieldsOf kind.toNat) ++ List.replicate (5 - fieldsOf kind.toNat) 0 := by rw [← hd, List.take_append_drop]
          conv => rhs; rw [hx]
          have h5 : ([0, 0, 0, 0, 0] : List Int) = List.replicate 5 0 := rfl
          rw [h5, List.take_append, List.length_take, hf, Nat.min_eq_left hw, List.take_of_length_le (by rw [List.length_take]; omega), List.take_replicate]
          congr 2
          omega
        rw [hm]
      · cases h
  · cases h
end Go.Proofs.YtddnmocoaahlfaaGreatDoor
