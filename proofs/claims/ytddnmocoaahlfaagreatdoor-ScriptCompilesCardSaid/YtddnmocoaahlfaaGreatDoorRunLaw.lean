/-
  The execution of statements in plain Lean: the steps only grow; the rounds of a loop. No condition.
-/
import Derived.Test.YtddnmocoaahlfaaGreatDoorPlain
set_option linter.unusedVariables false
set_option linter.unusedSimpArgs false
namespace Go.Proofs.YtddnmocoaahlfaaGreatDoor
theorem stepL_steps {l : Nat} {s s' : Ran} (h : stepL l s = .ok s') : s' = ⟨s.vars, s.steps + 1, s.acts⟩ := by
  unfold stepL at h
  split at h
  · cases h
  · injection h with h; exact h.symm
theorem loopL_steps {f : Ran → Res} (hf : ∀ s s', f s = .ok s' → s.steps ≤ s'.steps) (l : Nat) (n : List UInt8) : ∀ (j : Nat) (v hi : Int) (s s' : Ran), loopL f l n j v hi s = .ok s' → s.steps ≤ s'.steps := by
  intro j
  induction j with
  | zero => intro v hi s s' h; unfold loopL at h; injection h with h; subst h; exact Nat.le_refl _
  | succ j ih =>
    intro v hi s s' h
    unfold loopL at h
    split at h
    · split at h
      · cases h
      · rename_i s1 h1
        have e1 := stepL_steps h1
        split at h
        · cases h
        · rename_i s2 h2
          have e2 := hf _ _ h2
          have e3 := ih _ _ _ _ h
          rw [e1] at e2
          simp only at e2
          omega
    · injection h with h; subst h; exact Nat.le_refl _
mutual
theorem runS_steps : ∀ (a : Stm) (s s' : Ran), runS a s = .ok s' → s.steps ≤ s'.steps
  | .mk l kd n xs bd ot, s, s', hr => by
    have ihb := runL_steps bd
    have iho := runL_steps ot
    unfold runS at hr
    split at hr
    · cases hr
    · rename_i s1 h1
      have e1 := stepL_steps h1
      have e2 : s.steps ≤ s1.steps := by rw [e1]; exact Nat.le_succ _
      split at hr
      · cases hr
      · split at hr
        · injection hr with hr; subst hr; exact e2
        split at hr
        · exact Nat.le_trans e2 (loopL_steps ihb l n _ _ _ _ _ hr)
        split at hr
        · split at hr
          · exact Nat.le_trans e2 (ihb _ _ hr)
          · exact Nat.le_trans e2 (iho _ _ hr)
        split at hr
        · cases hr
        · injection hr with hr; subst hr; exact e2
theorem runL_steps : ∀ (a : List Stm) (s s' : Ran), runL a s = .ok s' → s.steps ≤ s'.steps
  | [], s, s', hr => by unfold runL at hr; injection hr with hr; subst hr; exact Nat.le_refl _
  | x :: xs, s, s', hr => by
    unfold runL at hr
    split at hr
    · cases hr
    · rename_i s1 h1
      exact Nat.le_trans (runS_steps x _ _ h1) (runL_steps xs _ _ hr)
end
theorem loopL_out {f : Ran → Res} {l : Nat} {n : List UInt8} {k : Nat} {v hi : Int} {s : Ran} (h : ¬ v ≤ hi) : loopL f l n k v hi s = .ok s := by
  cases k with
  | zero => rfl
  | succ k => unfold loopL; rw [if_neg h]
theorem loopL_full {f : Ran → Res} {l : Nat} {n : List UInt8} {k : Nat} {v hi : Int} {s : Ran} (h : v ≤ hi) (hs : s.steps = 16384) : loopL f l n (k + 1) v hi s = .error (5, l) := by
  unfold loopL stepL
  rw [if_pos h, if_pos (by omega)]
theorem loopL_go {f : Ran → Res} {l : Nat} {n : List UInt8} {k : Nat} {v hi : Int} {s : Ran} (h : v ≤ hi) (hs : s.steps + 1 ≤ 16384) :
    loopL f l n (k + 1) v hi s = match f ⟨upd s.vars n v, s.steps + 1, s.acts⟩ with | .error e => .error e | .ok s2 => loopL f l n k (v + 1) hi s2 := by
  conv => lhs; unfold loopL
  unfold stepL
  rw [if_pos h, if_neg (by omega)]
  rfl
end Go.Proofs.YtddnmocoaahlfaaGreatDoor
