/-
  The language of scripts in plain Lean, with what the laws ask of it. No condition; no program in sight.
-/
import Derived.Lib.ItoaNum
set_option linter.unusedVariables false
set_option linter.unusedSimpArgs false
namespace Go.Proofs.YtddnmocoaahlfaaGreatDoor
inductive Ex where
  | num (n : Nat)
  | name (s : List UInt8)
  | neg (k : Nat) (x : Ex)
  | bin (op : UInt8) (a b : Ex)
deriving Repr, DecidableEq
def maxValue : Int := 9007199254740992
def bit (b : Bool) : Int := if b then 1 else 0
def small (n : Int) : Except Int Int := if n < -maxValue ∨ n > maxValue then .error 101 else .ok n
def applyOp (op : UInt8) (a b : Int) : Except Int Int :=
  if op = 43 then small (a + b) else if op = 45 then small (a - b)
  else if op = 42 then small (a * b)
  else if op = 47 then (if b = 0 then .error 101 else .ok (a.tdiv b))
  else if op = 37 then (if b = 0 then .error 101 else .ok (a.tmod b))
  else if op = 61 then .ok (bit (a = b)) else if op = 60 then .ok (bit (a < b)) else if op = 62 then .ok (bit (a > b))
  else if op = 38 then .ok (bit (a ≠ 0 ∧ b ≠ 0)) else .ok (bit (a ≠ 0 ∨ b ≠ 0))
def Ex.eval (σ : List UInt8 → Option Int) : Ex → Except Int Int
  | .num n => .ok n
  | .name s => match σ s with | some v => small v | none => .error 100
  | .neg k x => match x.eval σ with | .ok v => small (if k % 2 = 1 then -v else v) | .error e => .error e
  | .bin op a b =>
    match a.eval σ with
    | .error e => .error e
    | .ok x => match b.eval σ with | .error e => .error e | .ok y => applyOp op x y
abbrev Reads := List UInt8 → Option (Ex × List UInt8)
def taken (p : UInt8 → Bool) (r : List UInt8) : List UInt8 × List UInt8 := (r.takeWhile p, r.dropWhile p)
def isDig (c : UInt8) : Bool := 48 ≤ c && c ≤ 57
def isLet (c : UInt8) : Bool := 97 ≤ c && c ≤ 122
def numOf (l : List UInt8) : Nat := l.foldl (fun n c => 10 * n + (c.toNat - 48)) 0
def primE (inner : Option Reads) : Reads := fun r =>
  match r with
  | [] => none
  | c :: t =>
    if isDig c then
      let d := taken isDig r
      if (c = 48 ∧ d.1.length > 1) ∨ numOf d.1 > 9007199254740992 then none else some (.num (numOf d.1), d.2)
    else if isLet c then
      let d := taken isLet r
      if d.1.length ≤ 16 then some (.name d.1, d.2) else none
    else if c = 40 then
      match inner with
      | none => none
      | some f => match f t with
        | some (x, 41 :: t') => some (x, t')
        | _ => none
    else none
def signE (prim : Reads) : Reads := fun r =>
  let d := taken (· == 45) r
  match prim d.2 with
  | none => none
  | some (x, t) => some (if d.1.length = 0 then x else .neg d.1.length x, t)
def moreE (ops : List UInt8) (several : Bool) (sub : Reads) : Nat → Ex → Reads
  | 0, a, r => some (a, r)
  | k + 1, a, r =>
    match r with
    | [] => some (a, r)
    | c :: t =>
      if ops.contains c then
        match sub t with
        | none => none
        | some (b, t') => if several then moreE ops several sub k (.bin c a b) t' else some (.bin c a b, t')
      else some (a, r)
def levelE (ops : List UInt8) (several : Bool) (sub : Reads) : Reads := fun r =>
  match sub r with
  | none => none
  | some (a, t) => moreE ops several sub (t.length + 1) a t
def grammar : List (List UInt8 × Bool) := [([124], true), ([38], true), ([61, 60, 62], false), ([43, 45], true), ([42, 47, 37], true)]
def binaryE (sign : Reads) : List (List UInt8 × Bool) → Reads
  | [] => sign
  | l :: ls => levelE l.1 l.2 (binaryE sign ls)
def exprE : Nat → Reads
  | 0 => binaryE (signE (primE none)) grammar
  | d + 1 => binaryE (signE (primE (some (exprE d)))) grammar
def parseE (s : List UInt8) : Option Ex :=
  match exprE 16 s with
  | some (x, []) => some x
  | _ => none
/-! The reader consumes; more parentheses change nothing; what stands behind a closing parenthesis is left. -/
def Eats (f : Reads) : Prop := ∀ r x t, f r = some (x, t) → t.length < r.length
theorem taken_len (p : UInt8 → Bool) (r : List UInt8) : (taken p r).1.length + (taken p r).2.length = r.length := by
  unfold taken
  rw [← List.length_append, List.takeWhile_append_dropWhile]
theorem taken_pos {p : UInt8 → Bool} {c : UInt8} {r : List UInt8} (h : p c = true) : 1 ≤ (taken p (c :: r)).1.length := by simp [taken, h]
theorem primE_eats {inner : Option Reads} (hi : ∀ f, inner = some f → Eats f) : Eats (primE inner) := by
  intro r x t h
  unfold primE at h
  cases r with
  | nil => simp at h
  | cons c r =>
    simp only at h
    split at h
    · rename_i hc
      have := taken_len isDig (c :: r); have := taken_pos (r := r) hc
      split at h
      · cases h
      · simp only [Option.some.injEq, Prod.mk.injEq] at h
        rw [← h.2]; omega
    · split at h
      · rename_i _ hc
        have := taken_len isLet (c :: r); have := taken_pos (r := r) hc
        split at h
        · simp only [Option.some.injEq, Prod.mk.injEq] at h
          rw [← h.2]; omega
        · cases h
      · split at h
        · split at h
          · cases h
          · rename_i f
            have := hi f rfl
            split at h
            · rename_i y t' hf
              have := this _ _ _ hf
              simp only [Option.some.injEq, Prod.mk.injEq] at h
              rw [← h.2]; simp at this ⊢; omega
            · cases h
        · cases h
theorem signE_eats {f : Reads} (hf : Eats f) : Eats (signE f) := by
  intro r x t h
  unfold signE at h
  simp only at h
  have := taken_len (· == 45) r
  split at h
  · cases h
  · rename_i y t' h'
    have := hf _ _ _ h'
    simp only [Option.some.injEq, Prod.mk.injEq] at h
    rw [← h.2]; omega
theorem moreE_eats {ops : List UInt8} {several : Bool} {sub : Reads} (hs : Eats sub) : ∀ (k : Nat) (a : Ex) (r : List UInt8) (x : Ex) (t : List UInt8), moreE ops several sub k a r = some (x, t) → t.length ≤ r.length := by
  intro k
  induction k with
  | zero => intro a r x t h; simp [moreE] at h; simp [h.2]
  | succ k ih =>
    intro a r x t h
    unfold moreE at h
    cases r with
    | nil => simp at h; simp [h.2]
    | cons c r =>
      simp only at h
      split at h
      · split at h
        · cases h
        · rename_i b t' hb
          have := hs _ _ _ hb
          split at h
          · have := ih _ _ _ _ h; simp; omega
          · simp only [Option.some.injEq, Prod.mk.injEq] at h
            rw [← h.2]; simp; omega
      · simp only [Option.some.injEq, Prod.mk.injEq] at h
        rw [← h.2]; simp
theorem levelE_eats {ops : List UInt8} {several : Bool} {sub : Reads} (hs : Eats sub) : Eats (levelE ops several sub) := by
  intro r x t h
  unfold levelE at h
  split at h
  · cases h
  · rename_i a t' ha
    have := hs _ _ _ ha; have := moreE_eats hs _ _ _ _ _ h; omega
theorem binaryE_eats {sign : Reads} (hs : Eats sign) : ∀ l, Eats (binaryE sign l)
  | [] => hs
  | _ :: ls => levelE_eats (binaryE_eats hs ls)
theorem exprE_eats : ∀ d, Eats (exprE d)
  | 0 => binaryE_eats (signE_eats (primE_eats (by intro f h; cases h))) _
  | d + 1 => binaryE_eats (signE_eats (primE_eats (by intro f h; injection h with h; exact h ▸ exprE_eats d))) _
theorem moreE_fuel {ops : List UInt8} {several : Bool} {sub : Reads} (hs : Eats sub) : ∀ (k k' : Nat) (a : Ex) (r : List UInt8), r.length < k → r.length < k' → moreE ops several sub k a r = moreE ops several sub k' a r := by
  intro k
  induction k with
  | zero => intro k' a r h; omega
  | succ k ih =>
    intro k' a r h h'
    cases k' with
    | zero => omega
    | succ k' =>
      unfold moreE
      cases r with
      | nil => rfl
      | cons c r =>
        simp only
        split
        · cases hb : sub r with
          | none => rfl
          | some bt =>
            obtain ⟨b, t⟩ := bt
            have := hs _ _ _ hb
            simp only [List.length_cons] at h h'
            simp only
            split
            · exact ih k' _ _ (by omega) (by omega)
            · rfl
        · rfl
/-! Numerals in an expression are not too great; values neither. -/
inductive Fine : Ex → Prop
  | num {n : Nat} (h : n ≤ 9007199254740992) : Fine (.num n)
  | name (s : List UInt8) : Fine (.name s)
  | neg (k : Nat) {x : Ex} (h : Fine x) : Fine (.neg k x)
  | bin (op : UInt8) {a b : Ex} (ha : Fine a) (hb : Fine b) : Fine (.bin op a b)
def Fines (f : Reads) : Prop := ∀ r x t, f r = some (x, t) → Fine x
theorem primE_fine {inner : Option Reads} (hi : ∀ f, inner = some f → Fines f) : Fines (primE inner) := by
  intro r x t h
  unfold primE at h
  cases r with
  | nil => simp at h
  | cons c r =>
    simp only at h
    split at h
    · split at h
      · cases h
      · rename_i hn
        simp only [Option.some.injEq, Prod.mk.injEq] at h
        rw [← h.1]; exact .num (by omega)
    · split at h
      · split at h
        · simp only [Option.some.injEq, Prod.mk.injEq] at h
          rw [← h.1]; exact .name _
        · cases h
      · split at h
        · split at h
          · cases h
          · rename_i f
            split at h
            · rename_i y t' hf
              simp only [Option.some.injEq, Prod.mk.injEq] at h
              rw [← h.1]; exact hi f rfl _ _ _ hf
            · cases h
        · cases h
theorem signE_fine {f : Reads} (hf : Fines f) : Fines (signE f) := by
  intro r x t h
  unfold signE at h
  simp only at h
  split at h
  · cases h
  · rename_i y t' h'
    simp only [Option.some.injEq, Prod.mk.injEq] at h
    rw [← h.1]
    split
    · exact hf _ _ _ h'
    · exact .neg _ (hf _ _ _ h')
theorem moreE_fine {ops : List UInt8} {several : Bool} {sub : Reads} (hs : Fines sub) : ∀ (k : Nat) (a : Ex) (r : List UInt8) (x : Ex) (t : List UInt8), Fine a → moreE ops several sub k a r = some (x, t) → Fine x := by
  intro k
  induction k with
  | zero => intro a r x t ha h; simp [moreE] at h; exact h.1 ▸ ha
  | succ k ih =>
    intro a r x t ha h
    unfold moreE at h
    cases r with
    | nil => simp at h; exact h.1 ▸ ha
    | cons c r =>
      simp only at h
      split at h
      · split at h
        · cases h
        · rename_i b t' hb
          have := hs _ _ _ hb
          split at h
          · exact ih _ _ _ _ (.bin _ ha this) h
          · simp only [Option.some.injEq, Prod.mk.injEq] at h
            rw [← h.1]; exact .bin _ ha this
      · simp only [Option.some.injEq, Prod.mk.injEq] at h
        exact h.1 ▸ ha
theorem levelE_fine {ops : List UInt8} {several : Bool} {sub : Reads} (hs : Fines sub) : Fines (levelE ops several sub) := by
  intro r x t h
  unfold levelE at h
  split at h
  · cases h
  · rename_i a t' ha
    exact moreE_fine hs _ _ _ _ _ (hs _ _ _ ha) h
theorem binaryE_fine {sign : Reads} (hs : Fines sign) : ∀ l, Fines (binaryE sign l)
  | [] => hs
  | _ :: ls => levelE_fine (binaryE_fine hs ls)
theorem exprE_fine : ∀ d, Fines (exprE d)
  | 0 => binaryE_fine (signE_fine (primE_fine (by intro f h; cases h))) _
  | d + 1 => binaryE_fine (signE_fine (primE_fine (by intro f h; injection h with h; exact h ▸ exprE_fine d))) _
theorem parseE_some {s : List UInt8} {x : Ex} (h : parseE s = some x) : exprE 16 s = some (x, []) := by
  unfold parseE at h
  split at h
  · rename_i y he; injection h with h; rw [he, h]
  · cases h
theorem parseE_fine {s : List UInt8} {x : Ex} (h : parseE s = some x) : Fine x := exprE_fine 16 _ _ _ (parseE_some h)
def Within (v : Int) : Prop := -maxValue ≤ v ∧ v ≤ maxValue
theorem small_ok {n v : Int} (h : small n = .ok v) : v = n ∧ Within n := by
  unfold small at h
  split at h
  · cases h
  · rename_i hn; injection h with h; exact ⟨h.symm, by unfold Within; omega⟩
theorem small_within {n : Int} (h : Within n) : small n = .ok n := by
  unfold small
  rw [if_neg (by unfold Within at h; omega)]
theorem bit_within (b : Bool) : Within (bit b) := by unfold bit Within maxValue; split <;> omega
theorem tdiv_within {a b : Int} (h : Within a) : Within (a.tdiv b) := by
  unfold Within at *
  have := Int.natAbs_tdiv_le_natAbs a b
  omega
theorem tmod_within {a b : Int} (h : Within a) : Within (a.tmod b) := by
  unfold Within at *
  have h1 := Int.natAbs_tmod a b
  have := Nat.mod_le a.natAbs b.natAbs
  omega
theorem applyOp_within {op : UInt8} {a b v : Int} (ha : Within a) (h : applyOp op a b = .ok v) : Within v := by
  unfold applyOp at h
  split at h
  · have := small_ok h; exact this.1 ▸ this.2
  split at h
  · have := small_ok h; exact this.1 ▸ this.2
  split at h
  · have := small_ok h; exact this.1 ▸ this.2
  split at h
  · split at h
    · cases h
    · injection h with h; exact h ▸ tdiv_within ha
  split at h
  · split at h
    · cases h
    · injection h with h; exact h ▸ tmod_within ha
  split at h
  · injection h with h; exact h ▸ bit_within _
  split at h
  · injection h with h; exact h ▸ bit_within _
  split at h
  · injection h with h; exact h ▸ bit_within _
  split at h
  · injection h with h; exact h ▸ bit_within _
  · injection h with h; exact h ▸ bit_within _
theorem eval_within {σ : List UInt8 → Option Int} {x : Ex} (hx : Fine x) : ∀ {v : Int}, x.eval σ = .ok v → Within v := by
  induction hx with
  | num h => intro v hv; simp [Ex.eval] at hv; unfold Within maxValue; omega
  | name s =>
    intro v hv; simp only [Ex.eval] at hv
    split at hv
    · have := small_ok hv; exact this.1 ▸ this.2
    · cases hv
  | neg k h ih =>
    intro v hv; simp only [Ex.eval] at hv
    split at hv
    · have := small_ok hv; exact this.1 ▸ this.2
    · cases hv
  | bin op ha hb iha ihb =>
    intro v hv; simp only [Ex.eval] at hv
    split at hv
    · cases hv
    · rename_i a h1
      split at hv
      · cases hv
      · exact applyOp_within (iha h1) hv
/-! What a text of an expression is worth; parentheses, a sum with 0, two signs, a comparison with itself. -/
def evalT (s : List UInt8) (σ : List UInt8 → Option Int) : Int × Int :=
  match parseE s with
  | none => (0, 4)
  | some x => match x.eval σ with | .ok v => (v, 0) | .error e => (0, e)
theorem levelE_stop {ops : List UInt8} {sv : Bool} {sub : Reads} {r t : List UInt8} {a : Ex} (h : sub r = some (a, t)) (ht : t = [] ∨ ∃ c u, t = c :: u ∧ ops.contains c = false) : levelE ops sv sub r = some (a, t) := by
  unfold levelE
  rw [h]
  simp only
  unfold moreE
  rcases ht with rfl | ⟨c, u, rfl, hc⟩
  · rfl
  · simp only [hc]; rfl
theorem binaryE_stop {f : Reads} {r t : List UInt8} {a : Ex} (h : f r = some (a, t)) : ∀ l : List (List UInt8 × Bool), (t = [] ∨ ∃ c u, t = c :: u ∧ ∀ p ∈ l, p.1.contains c = false) → binaryE f l r = some (a, t)
  | [], _ => h
  | p :: ls, ht => by
    refine levelE_stop (binaryE_stop h ls ?_) ?_
    · rcases ht with ht | ⟨c, u, e, hc⟩
      · exact .inl ht
      · exact .inr ⟨c, u, e, fun q hq => hc q (by simp [hq])⟩
    · rcases ht with ht | ⟨c, u, e, hc⟩
      · exact .inl ht
      · exact .inr ⟨c, u, e, hc p (by simp)⟩
theorem signE_none {f : Reads} {c : UInt8} {r : List UInt8} (hc : (c == 45) = false) : signE f (c :: r) = f (c :: r) := by
  unfold signE
  have e : taken (· == 45) (c :: r) = ([], c :: r) := by simp [taken, hc]
  rw [e]
  simp only
  cases f (c :: r) <;> simp
abbrev sign16 : Reads := signE (primE (some (exprE 15)))
theorem exprE_16 : exprE 16 = binaryE sign16 grammar := rfl
theorem parseE_of {s : List UInt8} {x : Ex} (h : exprE 16 s = some (x, [])) : parseE s = some x := by unfold parseE; rw [h]
theorem small_err {n e : Int} (h : small n = .error e) : e = 101 := by
  unfold small at h
  split at h
  · injection h with h; exact h.symm
  · cases h
theorem applyOp_err {op : UInt8} {a b e : Int} (h : applyOp op a b = .error e) : e = 101 := by
  unfold applyOp at h
  split at h
  · exact small_err h
  split at h
  · exact small_err h
  split at h
  · exact small_err h
  split at h
  · split at h
    · injection h with h; exact h.symm
    · cases h
  split at h
  · split at h
    · injection h with h; exact h.symm
    · cases h
  split at h
  · cases h
  split at h
  · cases h
  split at h
  · cases h
  split at h
  · cases h
  · cases h
theorem eval_err {σ : List UInt8 → Option Int} {x : Ex} : ∀ {e : Int}, x.eval σ = .error e → e = 100 ∨ e = 101 := by
  induction x with
  | num n => intro e h; cases h
  | name s =>
    intro e h; simp only [Ex.eval] at h
    split at h
    · exact .inr (small_err h)
    · injection h with h; exact .inl h.symm
  | neg k x ih =>
    intro e h; simp only [Ex.eval] at h
    split at h
    · exact .inr (small_err h)
    · rename_i e' he; injection h with h; exact h ▸ ih he
  | bin op a b iha ihb =>
    intro e h; simp only [Ex.eval] at h
    split at h
    · rename_i e' he; injection h with h; exact h ▸ iha he
    · split at h
      · rename_i e' he; injection h with h; exact h ▸ ihb he
      · exact .inr (applyOp_err h)
inductive Stm where
  | mk (line : Nat) (kind name : List UInt8) (args : List Ex) (body other : List Stm)
structure Act5 where
  kind : Nat
  f : List Int
  keep : List Int
deriving Repr, DecidableEq
structure Ran where
  vars : List UInt8 → Option Int
  steps : Nat
  acts : List Act5
abbrev Res := Except (Int × Nat) Ran
def sLet : List UInt8 := [108, 101, 116]
def sFor : List UInt8 := [102, 111, 114]
def sIf : List UInt8 := [105, 102]
def sElse : List UInt8 := [101, 108, 115, 101]
def sEnd : List UInt8 := [101, 110, 100]
def actWords : List (List UInt8 × Nat) := [
  ([109,111,117,110,116], 1), ([112,114,105,110,116], 2), ([116,105,99,107], 0), ([115,112,111,105,108], 2), ([114,101,112,97,105,114], 2),
  ([105,110,115,112,101,99,116], 4), ([99,117,116], 1), ([98,101,103,105,110], 0), ([108,111,111,107], 3), ([109,111,118,101], 5),
  ([99,111,109,109,105,116], 1), ([97,98,111,114,116], 1), ([100,101,115,116,114,111,121], 4), ([97,117,100,105,116], 3), ([115,97,118,101], 0),
  ([99,104,101,99,107], 0), ([99,114,97,115,104], 0)]
def actOfL (w : List UInt8) : Nat := (actWords.findIdx? (·.1 == w)).elim 0 (· + 1)
def makeActL (kind : Nat) (l : List Int) : Act5 := if kind = 17 then ⟨kind, [0, 0, 0, 0, 0], l⟩ else ⟨kind, (l ++ [0, 0, 0, 0, 0]).take 5, []⟩
def stepL (line : Nat) (s : Ran) : Res := if s.steps + 1 > 16384 then .error (5, line) else .ok { s with steps := s.steps + 1 }
def upd (σ : List UInt8 → Option Int) (n : List UInt8) (v : Int) : List UInt8 → Option Int := fun m => if m = n then some v else σ m
def evalAll (σ : List UInt8 → Option Int) : List Ex → Except Int (List Int)
  | [] => .ok []
  | x :: xs => match x.eval σ with
    | .error e => .error e
    | .ok v => match evalAll σ xs with | .error e => .error e | .ok vs => .ok (v :: vs)
def loopL (body : Ran → Res) (line : Nat) (name : List UInt8) : Nat → Int → Int → Ran → Res
  | 0, _, _, s => .ok s
  | k + 1, v, hi, s =>
    if v ≤ hi then
      match stepL line s with
      | .error e => .error e
      | .ok s1 => match body { s1 with vars := upd s1.vars name v } with
        | .error e => .error e
        | .ok s2 => loopL body line name k (v + 1) hi s2
    else .ok s
mutual
def runS : Stm → Ran → Res
  | .mk line kind name args body other, s =>
    match stepL line s with
    | .error e => .error e
    | .ok s1 =>
      match evalAll s1.vars args with
      | .error e => .error (e, line)
      | .ok v =>
        if kind = sLet then .ok { s1 with vars := upd s1.vars name (v.getD 0 0) }
        else if kind = sFor then loopL (fun r => runL body r) line name 16385 (v.getD 0 0) (v.getD 1 0) s1
        else if kind = sIf then (if v.getD 0 0 ≠ 0 then runL body s1 else runL other s1)
        else if s1.acts.length = 4096 then .error (5, line)
        else .ok { s1 with acts := s1.acts ++ [makeActL (actOfL kind) v] }
def runL : List Stm → Ran → Res
  | [], s => .ok s
  | t :: ts, s => match runS t s with | .error e => .error e | .ok s1 => runL ts s1
end
structure Opn where
  line : Nat
  kind : List UInt8
  name : List UInt8
  args : List Ex
  body : List Stm
  other : List Stm
  hasOther : Bool
def Opn.toStm (o : Opn) : Stm := .mk o.line o.kind o.name o.args o.body o.other
def Opn.put (o : Opn) (s : Stm) : Opn := if o.hasOther then { o with other := o.other ++ [s] } else { o with body := o.body ++ [s] }
structure Bld where
  top : List Stm
  open_ : List Opn      -- the innermost one first
def Bld.put (b : Bld) (s : Stm) : Bld := match b.open_ with | [] => { b with top := b.top ++ [s] } | o :: os => { b with open_ := o.put s :: os }
def isNameL (s : List UInt8) : Bool := s.length ≥ 1 && s.length ≤ 16 && s.all isLet
def exprsL : List (List UInt8) → Option (List Ex)
  | [] => some []
  | w :: ws => match parseE w with | none => none | some x => match exprsL ws with | none => none | some xs => some (x :: xs)
def namedL (w : List (List UInt8)) (many : Nat) : Option (List UInt8 × List Ex) :=
  match w with
  | [] => none
  | n :: t => if t.length = many ∧ isNameL n then (exprsL t).map (n, ·) else none
def simpleL (w : List (List UInt8)) (least most : Nat) : Option (List UInt8 × List Ex) :=
  if w.length < least ∨ w.length > most then none else (exprsL w).map ([], ·)
def partsL (kind : List UInt8) (w : List (List UInt8)) : Option (List UInt8 × List Ex) :=
  if kind = sLet then namedL w 1 else if kind = sFor then namedL w 2 else if kind = sIf then simpleL w 1 1
  else
    let k := actOfL kind
    if k = 0 then none else if k = 17 then simpleL w 0 16
    else let n := (actWords.getD (k - 1) ([], 0)).2; simpleL w n n
def closeL (b : Bld) (w : List (List UInt8)) : Option Bld :=
  match b.open_ with
  | [] => none
  | o :: os =>
    if w.length ≠ 1 then none
    else if w.headD [] = sEnd then some (Bld.put { b with open_ := os } o.toStm)
    else if o.kind ≠ sIf ∨ o.hasOther then none else some { b with open_ := { o with hasOther := true } :: os }
def addL (line : Nat) (w : List (List UInt8)) (b : Bld) : Option Bld :=
  match w with
  | [] => some b
  | k :: t =>
    if k = sElse ∨ k = sEnd then closeL b w
    else match partsL k t with
      | none => none
      | some (n, xs) =>
        if k = sFor ∨ k = sIf then
          if b.open_.length + 1 ≤ 16 then some { b with open_ := ⟨line, k, n, xs, [], [], false⟩ :: b.open_ } else none
        else some (b.put (.mk line k n xs [] []))
def cutAt (b : UInt8) : List UInt8 → List (List UInt8)
  | [] => [[]]
  | c :: t => if c = b then [] :: cutAt b t else match cutAt b t with | [] => [[c]] | l :: ls => (c :: l) :: ls
def wordsL (line : List UInt8) : List (List UInt8) := (cutAt 32 line).filter (· ≠ [])
def linesL (text : List UInt8) : List (List UInt8) := let l := cutAt 10 text; if l.getLastD [] = [] then l.dropLast else l
def readL : Nat → List (List UInt8) → Bld → Except Nat Bld
  | _, [], b => .ok b
  | i, l :: ls, b =>
    let w := wordsL l
    if w = [] ∨ (w.headD []).headD 0 = 35 then readL (i + 1) ls b
    else match addL (i + 1) w b with
      | none => .error (i + 1)
      | some b1 => readL (i + 1) ls b1
def compileL (text : List UInt8) : Except (Nat × Int) (List Act5) :=
  if text.length > 65536 then .error (0, 5)
  else
    let ls := linesL text
    match readL 0 ls ⟨[], []⟩ with
    | .error i => .error (i, 4)
    | .ok b =>
      if b.open_ ≠ [] then .error (ls.length + 1, 4)
      else match runL b.top ⟨fun _ => none, 0, []⟩ with
        | .error (e, line) => .error (line, e)
        | .ok s => .ok s.acts
/-! Statements that differ in their lines alone run alike. -/
mutual
def simS : Stm → Stm → Prop
  | .mk l k n xs b o, t => ∃ l' b' o', t = .mk l' k n xs b' o' ∧ simL b b' ∧ simL o o' ∧ (0 < l ↔ 0 < l')
def simL : List Stm → List Stm → Prop
  | [], ts => ts = []
  | s :: ss, ts => ∃ t ts', ts = t :: ts' ∧ simS s t ∧ simL ss ts'
end
def Full (r : Res) : Prop := ∃ l, r = .error (5, l)
def Alike (exact : Bool) (r r' : Res) : Prop :=
  (exact = false ∧ (Full r ∨ Full r')) ∨ (∃ s s', r = .ok s ∧ r' = .ok s' ∧ s.vars = s'.vars ∧ s.acts = s'.acts ∧ (exact = true → s.steps = s'.steps)) ∨
    (∃ e l l', r = .error (e, l) ∧ r' = .error (e, l') ∧ (0 < l ↔ 0 < l'))
structure Near (exact : Bool) (s s' : Ran) : Prop where
  vars : s.vars = s'.vars
  acts : s.acts = s'.acts
  steps : exact = true → s.steps = s'.steps
theorem Alike.ok {ex : Bool} {s s' : Ran} (h : Near ex s s') : Alike ex (.ok s) (.ok s') := .inr (.inl ⟨s, s', rfl, rfl, h.vars, h.acts, h.steps⟩)
theorem Alike.err {ex : Bool} {e : Int} {l l' : Nat} (h : 0 < l ↔ 0 < l') : Alike ex (.error (e, l)) (.error (e, l')) := .inr (.inr ⟨e, l, l', rfl, rfl, h⟩)
theorem Alike.bind {ex : Bool} {r r' : Res} {f g : Ran → Res} : Alike ex r r' → (∀ s s', Near ex s s' → Alike ex (f s) (g s')) →
    Alike ex (match r with | .error e => .error e | .ok s => f s) (match r' with | .error e => .error e | .ok s => g s) := by
  intro h hf
  rcases h with ⟨he, h⟩ | ⟨s, s', rfl, rfl, h1, h2, h3⟩ | ⟨e, l, l', rfl, rfl, hl⟩
  · rcases h with ⟨l, rfl⟩ | ⟨l, rfl⟩
    · exact .inl ⟨he, .inl ⟨l, rfl⟩⟩
    · exact .inl ⟨he, .inr ⟨l, rfl⟩⟩
  · exact hf s s' ⟨h1, h2, h3⟩
  · exact .err hl
theorem stepL_alike {ex : Bool} {l l' : Nat} (hl : 0 < l ↔ 0 < l') {s s' : Ran} (h : Near ex s s') : Alike ex (stepL l s) (stepL l' s') := by
  unfold stepL
  cases ex with
  | true =>
    rw [h.steps rfl]
    split
    · exact .err hl
    · exact .ok ⟨h.vars, h.acts, fun _ => rfl⟩
  | false =>
    split
    · exact .inl ⟨rfl, .inl ⟨_, rfl⟩⟩
    · split
      · exact .inl ⟨rfl, .inr ⟨_, rfl⟩⟩
      · exact .ok ⟨h.vars, h.acts, fun h => by cases h⟩
theorem loopL_alike {ex : Bool} {f g : Ran → Res} (hf : ∀ s s', Near ex s s' → Alike ex (f s) (g s')) {l l' : Nat} (hl : 0 < l ↔ 0 < l') (n : List UInt8) : ∀ (k : Nat) (v hi : Int) (s s' : Ran), Near ex s s' → Alike ex (loopL f l n k v hi s) (loopL g l' n k v hi s') := by
  intro k
  induction k with
  | zero => intro v hi s s' h; exact .ok h
  | succ k ih =>
    intro v hi s s' h
    unfold loopL
    split
    · refine (stepL_alike hl h).bind fun a a' ha => ?_
      refine Alike.bind (hf _ _ ⟨?_, ha.acts, ha.steps⟩) fun b b' hb => ih _ _ _ _ hb
      simp only [ha.vars]
    · exact .ok h
mutual
theorem runS_alike (ex : Bool) : ∀ (a b : Stm), simS a b → ∀ s s', Near ex s s' → Alike ex (runS a s) (runS b s')
  | .mk l k n xs bd ot, t, h, s, s', hs => by
    unfold simS at h
    obtain ⟨l', b', o', rfl, hb, ho, hl⟩ := h
    have ihb := runL_alike ex bd b' hb
    have iho := runL_alike ex ot o' ho
    unfold runS
    refine (stepL_alike hl hs).bind fun a a' ha => ?_
    rw [ha.vars]
    cases evalAll a'.vars xs with
    | error e => exact .err hl
    | ok v =>
      simp only
      split
      · exact .ok ⟨rfl, ha.acts, ha.steps⟩
      split
      · exact loopL_alike ihb hl n _ _ _ _ _ ha
      split
      · split
        · exact ihb _ _ ha
        · exact iho _ _ ha
      rw [ha.acts]
      split
      · exact .err hl
      · exact .ok ⟨rfl, rfl, ha.steps⟩
theorem runL_alike (ex : Bool) : ∀ (a b : List Stm), simL a b → ∀ s s', Near ex s s' → Alike ex (runL a s) (runL b s')
  | [], ts, h, s, s', hs => by
    unfold simL at h
    subst h
    unfold runL
    exact .ok hs
  | x :: xs, ts, h, s, s', hs => by
    unfold simL at h
    obtain ⟨t, ts', rfl, h1, h2⟩ := h
    unfold runL
    exact (runS_alike ex x t h1 s s' hs).bind fun a a' ha => runL_alike ex xs ts' h2 a a' ha
end
/-! Errors of a run name a line; lines are positive. -/
mutual
def posS : Stm → Prop
  | .mk l _ _ _ b o => 0 < l ∧ posL b ∧ posL o
def posL : List Stm → Prop
  | [] => True
  | s :: ss => posS s ∧ posL ss
end
theorem stepL_pos {l : Nat} (hl : 0 < l) {s : Ran} {e : Int} {k : Nat} (h : stepL l s = .error (e, k)) : 0 < k := by
  unfold stepL at h
  split at h
  · injection h with h; injection h with _ h; omega
  · cases h
theorem loopL_pos {f : Ran → Res} (hf : ∀ s e k, f s = .error (e, k) → 0 < k) {l : Nat} (hl : 0 < l) (n : List UInt8) : ∀ (j : Nat) (v hi : Int) (s : Ran) (e : Int) (k : Nat), loopL f l n j v hi s = .error (e, k) → 0 < k := by
  intro j
  induction j with
  | zero => intro v hi s e k h; cases h
  | succ j ih =>
    intro v hi s e k h
    unfold loopL at h
    split at h
    · split at h
      · rename_i e' he; injection h with h; subst h; exact stepL_pos hl he
      · split at h
        · rename_i e' he; injection h with h; subst h; exact hf _ _ _ he
        · exact ih _ _ _ _ _ h
    · cases h
mutual
theorem runS_pos : ∀ (a : Stm), posS a → ∀ s e k, runS a s = .error (e, k) → 0 < k
  | .mk l kd n xs bd ot, h, s, e, k, hr => by
    unfold posS at h
    obtain ⟨hl, hb, ho⟩ := h
    have ihb := runL_pos bd hb
    have iho := runL_pos ot ho
    unfold runS at hr
    split at hr
    · rename_i e' he; injection hr with hr; subst hr; exact stepL_pos hl he
    · split at hr
      · injection hr with hr; injection hr with _ hr; omega
      · split at hr
        · cases hr
        split at hr
        · exact loopL_pos ihb hl n _ _ _ _ _ _ hr
        split at hr
        · split at hr
          · exact ihb _ _ _ hr
          · exact iho _ _ _ hr
        split at hr
        · injection hr with hr; injection hr with _ hr; omega
        · cases hr
theorem runL_pos : ∀ (a : List Stm), posL a → ∀ s e k, runL a s = .error (e, k) → 0 < k
  | [], _, s, e, k, hr => by unfold runL at hr; cases hr
  | x :: xs, h, s, e, k, hr => by
    unfold posL at h
    unfold runL at hr
    split at hr
    · rename_i e' he; injection hr with hr; subst hr; exact runS_pos x h.1 _ _ _ he
    · exact runL_pos xs h.2 _ _ _ hr
end
/-! What is read depends on the words alone. -/
theorem simL_append : ∀ {a a' : List Stm}, simL a a' → ∀ {b b'}, simL b b' → simL (a ++ b) (a' ++ b')
  | [], ts, h, b, b', hb => by unfold simL at h; subst h; exact hb
  | x :: xs, ts, h, b, b', hb => by
    unfold simL at h
    obtain ⟨t, ts', rfl, h1, h2⟩ := h
    rw [List.cons_append, List.cons_append]
    unfold simL
    exact ⟨t, ts' ++ b', rfl, h1, simL_append h2 hb⟩
theorem simL_one {a b : Stm} (h : simS a b) : simL [a] [b] := by unfold simL; exact ⟨b, [], rfl, h, by unfold simL; rfl⟩
theorem posL_append : ∀ {a b : List Stm}, posL a → posL b → posL (a ++ b)
  | [], b, _, hb => hb
  | x :: xs, b, h, hb => by
    unfold posL at h
    rw [List.cons_append]
    unfold posL
    exact ⟨h.1, posL_append h.2 hb⟩
inductive All2 {α β : Type} (R : α → β → Prop) : List α → List β → Prop
  | nil : All2 R [] []
  | cons {a : α} {b : β} {l : List α} {l' : List β} (h : R a b) (t : All2 R l l') : All2 R (a :: l) (b :: l')
structure SimO (o o' : Opn) : Prop where
  line : 0 < o.line ∧ 0 < o'.line
  kind : o.kind = o'.kind
  name : o.name = o'.name
  args : o.args = o'.args
  body : simL o.body o'.body
  other : simL o.other o'.other
  has : o.hasOther = o'.hasOther
  pos : posL o.body ∧ posL o.other
structure SimB (b b' : Bld) : Prop where
  top : simL b.top b'.top
  pos : posL b.top
  open_ : All2 SimO b.open_ b'.open_
theorem SimO.toStm {o o' : Opn} (h : SimO o o') : simS o.toStm o'.toStm ∧ posS o.toStm := by
  unfold Opn.toStm simS posS
  rw [h.kind, h.name, h.args]
  exact ⟨⟨_, _, _, rfl, h.body, h.other, by simp [h.line.1, h.line.2]⟩, h.line.1, h.pos.1, h.pos.2⟩
theorem SimO.put {o o' : Opn} (h : SimO o o') {s s' : Stm} (hs : simS s s') (hp : posS s) : SimO (o.put s) (o'.put s') := by
  have hp1 : posL [s] := by unfold posL; exact ⟨hp, by unfold posL; trivial⟩
  unfold Opn.put
  rw [h.has]
  split
  · exact ⟨h.line, h.kind, h.name, h.args, h.body, simL_append h.other (simL_one hs), rfl, h.pos.1, posL_append h.pos.2 hp1⟩
  · exact ⟨h.line, h.kind, h.name, h.args, simL_append h.body (simL_one hs), h.other, rfl, posL_append h.pos.1 hp1, h.pos.2⟩
theorem SimB.put {b b' : Bld} (h : SimB b b') {s s' : Stm} (hs : simS s s') (hp : posS s) : SimB (b.put s) (b'.put s') := by
  have hp1 : posL [s] := by unfold posL; exact ⟨hp, by unfold posL; trivial⟩
  obtain ⟨ht, hps, ho⟩ := h
  unfold Bld.put
  cases b with | mk t os => cases b' with | mk t' os' =>
  cases ho with
  | nil => exact ⟨simL_append ht (simL_one hs), posL_append hps hp1, .nil⟩
  | cons h1 h2 => exact ⟨ht, hps, .cons (h1.put hs hp) h2⟩
def idle (w : List (List UInt8)) : Bool := w = [] ∨ (w.headD []).headD 0 = 35
def start : Bld := ⟨[], []⟩
def begun : Ran := ⟨fun _ => none, 0, []⟩
def compT (text : List UInt8) : List Act5 × Nat × Int := match compileL text with | .ok l => (l, 0, 0) | .error (k, e) => ([], k, e)
/-! Empty lines, remarks and further blanks. -/
theorem cutAt_ne (b : UInt8) : ∀ t, cutAt b t ≠ []
  | [] => by unfold cutAt; simp
  | c :: t => by
    unfold cutAt
    split
    · simp
    · split <;> simp
theorem cutAt_cons_ne {b c : UInt8} (h : c ≠ b) {t p : List UInt8} {ps : List (List UInt8)} (ht : cutAt b t = p :: ps) : cutAt b (c :: t) = (c :: p) :: ps := by
  rw [cutAt, if_neg h, ht]
theorem cutAt_cons_eq (b : UInt8) (t : List UInt8) : cutAt b (b :: t) = [] :: cutAt b t := by rw [cutAt, if_pos rfl]
theorem cutAt_append (b : UInt8) (y : List UInt8) : ∀ x, cutAt b (x ++ b :: y) = cutAt b x ++ cutAt b y
  | [] => by rw [List.nil_append, cutAt_cons_eq]; rfl
  | c :: x => by
    rw [List.cons_append]
    by_cases h : c = b
    · subst h; rw [cutAt_cons_eq, cutAt_cons_eq, cutAt_append]; rfl
    · obtain ⟨p, ps, e⟩ := List.exists_cons_of_ne_nil (cutAt_ne b x)
      rw [cutAt_cons_ne h e, cutAt_cons_ne (ps := ps ++ cutAt b y) h (by rw [cutAt_append, e]; rfl)]; rfl
theorem cutAt_none {b : UInt8} : ∀ {x : List UInt8}, b ∉ x → cutAt b x = [x]
  | [], _ => rfl
  | c :: x, h => by
    rw [cutAt_cons_ne (p := x) (ps := []) (fun e => h (by simp [e])) (cutAt_none fun e => h (by simp [e]))]
/-! What is read within a block is what is read alone, or there are too many blocks. -/
def pre (T : List Stm) (b : Bld) : Bld := ⟨T ++ b.top, b.open_⟩
mutual
theorem simS_refl : ∀ s, simS s s
  | .mk l k n xs b o => by unfold simS; exact ⟨l, b, o, rfl, simL_refl b, simL_refl o, Iff.rfl⟩
theorem simL_refl : ∀ s, simL s s
  | [] => by unfold simL; rfl
  | x :: xs => by unfold simL; exact ⟨x, xs, rfl, simS_refl x, simL_refl xs⟩
end
theorem runL_nil (s : Ran) : runL [] s = .ok s := by unfold runL; rfl
theorem runL_cons (x : Stm) (xs : List Stm) (s : Ran) : runL (x :: xs) s = (match runS x s with | .error e => .error e | .ok s1 => runL xs s1) := by conv => lhs; unfold runL
/-! What an expression's text is made of. -/
/-! Number texts in a script; a loop and its body written once for each value. -/
structure NumText (num : Int → List UInt8) : Prop where
  ok : ∀ n, Within n → ∃ x, parseE (num n) = some x ∧ ∀ σ, x.eval σ = .ok n
  bad : ∀ n, ¬ Within n → parseE (num n) = none
  clean : ∀ n, 32 ∉ num n ∧ 10 ∉ num n ∧ num n ≠ []
  short : ∀ n, -9223372036854775808 ≤ n → n ≤ 9223372036854775807 → (num n).length ≤ 40
theorem cutAt_skip {b : UInt8} {x y : List UInt8} (h : b ∉ x) : cutAt b (x ++ b :: y) = x :: cutAt b y := by rw [cutAt_append, cutAt_none h]; rfl
/-! The decimal text of an int, read as an expression. -/
open Go.Lib in
theorem decDigits_app {u : Nat} (h : ¬ u < 10) : decDigits u = decDigits (u / 10) ++ [UInt8.ofNat (48 + u % 10)] := by rw [decDigits, dif_neg h]
open Go.Lib in
theorem decDigits_small {u : Nat} (h : u < 10) : decDigits u = [UInt8.ofNat (48 + u)] := by rw [decDigits, dif_pos h]
theorem digit_nat {d : Nat} (h : d < 10) : (UInt8.ofNat (48 + d)).toNat = 48 + d := by rw [UInt8.toNat_ofNat']; omega
theorem digit_is {d : Nat} (h : d < 10) : isDig (UInt8.ofNat (48 + d)) = true := by
  unfold isDig
  have := digit_nat h
  simp only [Bool.and_eq_true, decide_eq_true_eq, UInt8.le_iff_toNat_le, this]
  constructor
  · show 48 ≤ 48 + d; omega
  · show 48 + d ≤ 57; omega
theorem numOf_snoc (l : List UInt8) (c : UInt8) : numOf (l ++ [c]) = 10 * numOf l + (c.toNat - 48) := by unfold numOf; simp
open Go.Lib in
theorem decDigits_facts : ∀ (u : Nat), (∀ c ∈ decDigits u, isDig c = true) ∧ numOf (decDigits u) = u ∧ (∃ c t, decDigits u = c :: t ∧ (c = 48 → u = 0 ∧ t = [])) := by
  intro u
  induction u using Nat.strongRecOn with
  | ind u ih =>
    by_cases h : u < 10
    · rw [decDigits_small h]
      refine ⟨by intro c hc; rw [List.mem_singleton.1 hc]; exact digit_is h, ?_, _, _, rfl, ?_⟩
      · have := digit_nat h
        simp [numOf]; omega
      · intro hc
        have := digit_nat h
        rw [hc] at this
        exact ⟨by have h48 : (48 : UInt8).toNat = 48 := rfl
                  omega, rfl⟩
    · obtain ⟨h1, h2, c, t, h3, h4⟩ := ih (u / 10) (by omega)
      have hd : u % 10 < 10 := Nat.mod_lt _ (by decide)
      rw [decDigits_app h]
      refine ⟨?_, ?_, c, t ++ [UInt8.ofNat (48 + u % 10)], by rw [h3]; rfl, ?_⟩
      · intro d hm
        rcases List.mem_append.1 hm with hm | hm
        · exact h1 d hm
        · rw [List.mem_singleton.1 hm]; exact digit_is hd
      · rw [numOf_snoc, h2, digit_nat hd]; omega
      · intro hc; have := (h4 hc).1; omega
theorem taken_all {p : UInt8 → Bool} {r : List UInt8} (h : ∀ c ∈ r, p c = true) : taken p r = (r, []) := by
  unfold taken
  induction r with
  | nil => rfl
  | cons c r ih =>
    have := ih (fun d hd => h d (by simp [hd]))
    simp only [Prod.mk.injEq] at this
    simp [h c (by simp), this.1, this.2]
open Go.Lib in
theorem prim_dec (inner : Option Reads) (u : Nat) : primE inner (decDigits u) = if u > 9007199254740992 then none else some (.num u, []) := by
  obtain ⟨h1, h2, c, t, h3, h4⟩ := decDigits_facts u
  have ht := taken_all h1
  rw [h3] at h1 h2 ht ⊢
  unfold primE
  simp only
  rw [if_pos (h1 c (by simp)), ht]
  simp only [h2]
  by_cases hu : u > 9007199254740992
  · rw [if_pos (.inr hu), if_pos hu]
  · rw [if_neg hu, if_neg]
    rintro (⟨hc, hl⟩ | h)
    · rw [(h4 hc).2] at hl; simp at hl
    · exact hu h
theorem levelE_none {ops : List UInt8} {sv : Bool} {sub : Reads} {r : List UInt8} (h : sub r = none) : levelE ops sv sub r = none := by unfold levelE; rw [h]
theorem binaryE_none {f : Reads} {r : List UInt8} (h : f r = none) : ∀ l, binaryE f l r = none
  | [] => h
  | _ :: ls => levelE_none (binaryE_none h ls)
instance (n : Int) : Decidable (Within n) := by unfold Within; exact inferInstance
def numX (n : Int) : Ex := if n < 0 then .neg 1 (.num n.natAbs) else .num n.toNat
theorem numX_eval {n : Int} (h : Within n) (σ : List UInt8 → Option Int) : (numX n).eval σ = .ok n := by
  unfold numX
  split
  · simp only [Ex.eval]
    rw [if_pos trivial]
    have e : -((n.natAbs : Nat) : Int) = n := by omega
    rw [e]; exact small_within h
  · simp only [Ex.eval]
    exact congrArg Except.ok (by omega)
open Go.Lib in
theorem sign_itoa (n : Int) : sign16 (itoa n) = if Within n then some (numX n, []) else none := by
  unfold itoa
  by_cases hn : n < 0
  · rw [if_pos hn]
    obtain ⟨h1, h2, c, t, h3, h4⟩ := decDigits_facts n.natAbs
    have hc : (c == 45) = false := by
      have hd := h1 c (by rw [h3]; simp)
      cases h : c == 45 with
      | false => rfl
      | true => have : c = 45 := by simpa using h
                subst this; exact absurd hd (by decide)
    unfold sign16 signE
    have ht : taken (· == 45) (45 :: decDigits n.natAbs) = ([45], decDigits n.natAbs) := by
      rw [h3]; unfold taken; simp [hc]
    rw [ht]
    simp only
    rw [prim_dec]
    by_cases hw : Within n
    · rw [if_pos hw, if_neg (by unfold Within maxValue at hw; omega)]
      unfold numX; rw [if_pos hn]; rfl
    · rw [if_neg hw, if_pos (by unfold Within maxValue at hw; omega)]
  · rw [if_neg hn]
    obtain ⟨h1, h2, c, t, h3, h4⟩ := decDigits_facts n.toNat
    have hc : (c == 45) = false := by
      have hd := h1 c (by rw [h3]; simp)
      cases h : c == 45 with
      | false => rfl
      | true => have : c = 45 := by simpa using h
                subst this; exact absurd hd (by decide)
    have hs : sign16 (decDigits n.toNat) = primE (some (exprE 15)) (decDigits n.toNat) := by rw [h3, sign16, signE_none hc]
    rw [hs, prim_dec]
    by_cases hw : Within n
    · rw [if_pos hw, if_neg (by unfold Within maxValue at hw; omega)]
      unfold numX; rw [if_neg hn]
    · rw [if_neg hw, if_pos (by unfold Within maxValue at hw; omega)]
open Go.Lib in
theorem parse_itoa (n : Int) : parseE (itoa n) = if Within n then some (numX n) else none := by
  have h := sign_itoa n
  by_cases hw : Within n
  · rw [if_pos hw] at h ⊢
    exact parseE_of (by rw [exprE_16]; exact binaryE_stop h _ (.inl rfl))
  · rw [if_neg hw] at h ⊢
    unfold parseE
    rw [exprE_16, binaryE_none h]
open Go.Lib in
theorem decDigits_len : ∀ (k u : Nat), u < 10 ^ (k + 1) → (decDigits u).length ≤ k + 1
  | 0, u, h => by rw [decDigits_small (by simpa using h)]; simp
  | k + 1, u, h => by
    by_cases h' : u < 10
    · rw [decDigits_small h']; simp
    · rw [decDigits_app h']
      have := decDigits_len k (u / 10) (by rw [Nat.pow_succ] at h; omega)
      simp; omega
open Go.Lib in
theorem itoa_text : NumText itoa := by
  have hcl : ∀ u, 32 ∉ decDigits u ∧ 10 ∉ decDigits u ∧ decDigits u ≠ [] := by
    intro u
    obtain ⟨h1, h2, c, t, h3, h4⟩ := decDigits_facts u
    exact ⟨fun h => absurd (h1 _ h) (by decide), fun h => absurd (h1 _ h) (by decide), by rw [h3]; simp⟩
  refine ⟨?_, ?_, ?_, ?_⟩
  · intro n h
    exact ⟨numX n, by rw [parse_itoa, if_pos h], numX_eval h⟩
  · intro n h
    rw [parse_itoa, if_neg h]
  · intro n
    unfold itoa
    split
    · have := hcl n.natAbs
      exact ⟨by simp [this.1], by simp [this.2.1], by simp⟩
    · exact hcl _
  · intro n h1 h2
    unfold itoa
    split
    · have := decDigits_len 19 n.natAbs (by omega)
      simp; omega
    · have := decDigits_len 19 n.toNat (by omega)
      omega
/-! The line of an act, compiled. -/
def lineT (word : List UInt8) (l : List Int) : List UInt8 := word ++ l.flatMap fun n => 32 :: Go.Lib.itoa n
def wordOf (k : Nat) : List UInt8 := (actWords.getD (k - 1) ([], 0)).1
def fieldsOf (k : Nat) : Nat := (actWords.getD (k - 1) ([], 0)).2
def textT (kind : Int) (f keep : List Int) : List UInt8 × Int :=
  if kind < 1 ∨ kind > 17 then ([], 2)
  else if (f.drop (fieldsOf kind.toNat)).all (· = 0) then
    if kind = 17 then (if keep.length ≤ 16 then (lineT (wordOf 17) keep, 0) else ([], 2))
    else if keep.length = 0 then (lineT (wordOf kind.toNat) (f.take (fieldsOf kind.toNat)), 0) else ([], 2)
  else ([], 2)
theorem words_fact : ∀ i : Fin 17, (32 ∉ wordOf (i + 1) ∧ 10 ∉ wordOf (i + 1) ∧ wordOf (i + 1) ≠ [] ∧ (wordOf (i + 1)).headD 0 ≠ 35) ∧ (wordOf (i + 1) ≠ sElse ∧ wordOf (i + 1) ≠ sEnd ∧ wordOf (i + 1) ≠ sLet ∧ wordOf (i + 1) ≠ sFor ∧ wordOf (i + 1) ≠ sIf) ∧ actOfL (wordOf (i + 1)) = i + 1 ∧ fieldsOf (i + 1) ≤ 5 := by decide
theorem word_fact {k : Nat} (h1 : 1 ≤ k) (h2 : k ≤ 17) : (32 ∉ wordOf k ∧ 10 ∉ wordOf k ∧ wordOf k ≠ [] ∧ (wordOf k).headD 0 ≠ 35) ∧ (wordOf k ≠ sElse ∧ wordOf k ≠ sEnd ∧ wordOf k ≠ sLet ∧ wordOf k ≠ sFor ∧ wordOf k ≠ sIf) ∧ actOfL (wordOf k) = k ∧ fieldsOf k ≤ 5 := by
  have := words_fact ⟨k - 1, by omega⟩
  simp only at this
  rw [show k - 1 + 1 = k by omega] at this
  exact this
theorem lineT_len (w : List UInt8) : ∀ l : List Int, (∀ n ∈ l, -9223372036854775808 ≤ n ∧ n ≤ 9223372036854775807) → (lineT w l).length ≤ w.length + l.length * 41
  | [], _ => by simp [lineT]
  | n :: l, h => by
    have ih := lineT_len w l fun m hm => h m (by simp [hm])
    have := itoa_text.short n (h n (by simp)).1 (h n (by simp)).2
    unfold lineT at *
    simp at ih ⊢; omega
end Go.Proofs.YtddnmocoaahlfaaGreatDoor
