/-
  The execution of a script within guard, and plain facts of its reading. Conditions: as in Run.
-/
import Derived.Test.YtddnmocoaahlfaaGreatDoorAdd2
import Derived.Test.YtddnmocoaahlfaaGreatDoorRun
import Derived.StillTailTactics
import Derived.Test.YtddnmocoaahlfaaGreatDoorY15
set_option linter.unusedVariables false
set_option linter.unusedSimpArgs false

namespace Go.Proofs.YtddnmocoaahlfaaGreatDoor
open Go.RowKit Go.Shelf
/-! Plain facts. -/
theorem stepL_err {l : Nat} {s : Ran} {e : Int} {k : Nat} (h : stepL l s = .error (e, k)) : e = 5 := by
  unfold stepL at h
  split at h
  · injection h with h; injection h with h _; exact h.symm
  · cases h
def Code3 (e : Int) : Prop := e = 5 ∨ e = 100 ∨ e = 101
theorem loopL_err {f : Ran → Res} (hf : ∀ s e k, f s = .error (e, k) → Code3 e) {l : Nat} (n : List UInt8) : ∀ (j : Nat) (v hi : Int) (s : Ran) (e : Int) (k : Nat), loopL f l n j v hi s = .error (e, k) → Code3 e := by
  intro j
  induction j with
  | zero => intro v hi s e k h; cases h
  | succ j ih =>
    intro v hi s e k h
    unfold loopL at h
    split at h
    · split at h
      · rename_i e' he; injection h with h; subst h; exact .inl (stepL_err he)
      · split at h
        · rename_i e' he; injection h with h; subst h; exact hf _ _ _ he
        · exact ih _ _ _ _ _ h
    · cases h
theorem evalAll_err {σ : List UInt8 → Option Int} : ∀ {xs : List Ex} {e : Int}, evalAll σ xs = .error e → e = 100 ∨ e = 101
  | [], e, h => by simp only [evalAll] at h; cases h
  | x :: xs, e, h => by
    simp only [evalAll] at h
    cases hx : x.eval σ with
    | error k => rw [hx] at h; injection h with h; subst h; exact eval_err hx
    | ok v =>
      rw [hx] at h
      cases hxs : evalAll σ xs with
      | error k => rw [hxs] at h; injection h with h; subst h; exact evalAll_err hxs
      | ok vs => rw [hxs] at h; cases h
mutual
theorem runS_err : ∀ (a : Stm) (s : Ran) (e : Int) (k : Nat), runS a s = .error (e, k) → Code3 e
  | .mk l kd n xs bd ot, s, e, k, hr => by
    have ihb := runL_err bd
    have iho := runL_err ot
    unfold runS at hr
    split at hr
    · rename_i e' he; injection hr with hr; subst hr; exact .inl (stepL_err he)
    · split at hr
      · rename_i e' he; injection hr with hr; injection hr with hr _; subst hr; exact .inr (evalAll_err he)
      · split at hr
        · cases hr
        split at hr
        · exact loopL_err ihb n _ _ _ _ _ _ hr
        split at hr
        · split at hr
          · exact ihb _ _ _ hr
          · exact iho _ _ _ hr
        split at hr
        · injection hr with hr; injection hr with hr _; exact .inl hr.symm
        · cases hr
theorem runL_err : ∀ (a : List Stm) (s : Ran) (e : Int) (k : Nat), runL a s = .error (e, k) → Code3 e
  | [], s, e, k, hr => by unfold runL at hr; cases hr
  | x :: xs, s, e, k, hr => by
    unfold runL at hr
    split at hr
    · rename_i e' he; injection hr with hr; subst hr; exact runS_err x _ _ _ he
    · exact runL_err xs _ _ _ hr
end
/-- No list is longer. -/
def Small (N : Nat) (b : Bld) : Prop := b.top.length ≤ N ∧ (∀ o ∈ b.open_, o.body.length ≤ N ∧ o.other.length ≤ N) ∧ b.open_.length ≤ 16
theorem Small.mono {N M : Nat} {b : Bld} (h : Small N b) (hN : N ≤ M) : Small M b := ⟨Nat.le_trans h.1 hN, fun o ho => ⟨Nat.le_trans (h.2.1 o ho).1 hN, Nat.le_trans (h.2.1 o ho).2 hN⟩, h.2.2⟩
theorem Small.cur {N : Nat} {b : Bld} (h : Small N b) : (curList b).length ≤ N := by
  obtain ⟨top, os⟩ := b
  cases os with
  | nil => exact h.1
  | cons o os =>
    unfold curList
    simp only
    have := h.2.1 o (by simp)
    split
    · exact this.2
    · exact this.1
theorem Small.put {N : Nat} {b : Bld} (h : Small N b) (s : Stm) : Small (N + 1) (b.put s) := by
  obtain ⟨top, os⟩ := b
  cases os with
  | nil =>
    refine ⟨?_, (fun o ho => by cases ho), h.2.2⟩
    have := h.1
    show (top ++ [s]).length ≤ _
    simp at this ⊢
    omega
  | cons o os =>
    have h1 := h.1
    have h2 := h.2.1
    refine ⟨Nat.le_succ_of_le h1, fun o' ho' => ?_, h.2.2⟩
    have ho := h2 o (by simp)
    rcases List.mem_cons.1 ho' with rfl | hm
    · unfold Opn.put
      split
      · simp; omega
      · simp; omega
    · have := h2 o' (by simp [hm]); omega
theorem closeL_small {N : Nat} {b b' : Bld} {w : List (List UInt8)} (hb : Small N b) (h : closeL b w = some b') : Small (N + 1) b' := by
  unfold closeL at h
  obtain ⟨top, os⟩ := b
  cases os with
  | nil => cases h
  | cons o os =>
    simp only at h
    split at h
    · cases h
    · split at h
      · injection h with h
        subst h
        refine Small.put (b := ⟨top, os⟩) ⟨hb.1, fun o' ho' => hb.2.1 o' (by simp [ho']), ?_⟩ _
        have := hb.2.2
        simp at this ⊢
        omega
      · split at h
        · cases h
        · injection h with h
          subst h
          refine ⟨Nat.le_succ_of_le hb.1, fun o' ho' => ?_, by simpa using hb.2.2⟩
          rcases List.mem_cons.1 ho' with rfl | hm
          · have := hb.2.1 o (by simp); simp only; omega
          · have := hb.2.1 o' (by simp [hm]); omega
theorem addL_small {N line : Nat} {b b' : Bld} {w : List (List UInt8)} (hb : Small N b) (h : addL line w b = some b') : Small (N + 1) b' := by
  unfold addL at h
  split at h
  · injection h with h; subst h; exact hb.mono (Nat.le_succ _)
  · split at h
    · exact closeL_small hb h
    · split at h
      · cases h
      · split at h
        · split at h
          · rename_i h16
            injection h with h
            subst h
            refine ⟨Nat.le_succ_of_le hb.1, fun o' ho' => ?_, by simpa using h16⟩
            rcases List.mem_cons.1 ho' with rfl | hm
            · simp
            · have := hb.2.1 o' hm; omega
          · cases h
        · injection h with h; subst h; exact hb.put _
/-! The execution within guard. -/
theorem enters60 (args : Array Value) (w : World) : (callFunc 60 args).run Tryz.prog w = .ok (.enter 60 args) w := enters_of Tryz.func60 (by kernel_rfl) rfl args w
theorem below_drew  (b0 : Nat) (w : World) : Below b0 w w.drew := ⟨rfl, rfl, rfl, Nat.le_refl _, fun _ _ => rfl⟩
theorem RetRun.drew {b0 mb m : Nat} {w w' : World} {r : Res} {e : Ending} (h : RetRun b0 mb m w.drew r e w') : RetRun b0 mb m w r e w' := ⟨(below_drew b0 w).trans h.1, h.2.1, h.2.2⟩
set_option maxRecDepth 100000 in
set_option maxHeartbeats 2000000 in
theorem comp1_any {w : World} {F : Nat → Prop} {b0 mb m PM PB B : Nat} {line : Int} {s : Ran} {v : Value} {ps : List Nat} {ss : List Stm} (hM : w.cell? ⟨PM, 0, none⟩ = some (ptr mb)) (hB : w.cell? ⟨PB, 0, none⟩ = some (ptr B)) (hv : w.cell? ⟨B, 4, none⟩ = some v)
    (hF : ∀ k, F k → k < b0) (hrow : PRow w v ps) (hvF : ∀ k, v.ownBlock = some k → F k) (hs : StmsAt w F ps ss) (ha : Acts w) (hb0 : 0 < b0) (hbw : b0 ≤ w.heap.size) (hm : MSt b0 mb m w line s) :
    Calls Tryz.prog 60 #[ptr PM, ptr PB] w (RetRun b0 mb m w (runL ss s)) := by
  have hs' : StmsAt w.drew F ps ss := StmsAt.keep (w := w) (w' := w.drew) (Nat.le_refl _) (fun _ _ => rfl) ss ps hs
  obtain ⟨va, m1, m2, m3, m4, m5, m6, m7⟩ := hm
  have H := run_all ss w.drew F b0 mb m line s v ps hF (row_keep hrow (fun _ _ => rfl)) hvF hs' ⟨ha.1, ha.2⟩ hb0 hbw ⟨va, Blk.below m1 (below_drew _ _), m2, m3.below (below_drew _ _), m4.typed (RowsKept.below (below_drew _ _)), m5, m6, m7⟩
  have HH := Lib.hid (H.mono fun e w' h => RetRun.drew h)
  clear H hs hs' hrow
  cases hr : runL ss s with
  | error ke =>
    obtain ⟨k, l⟩ := ke
    rw [hr] at HH
    go_enter Tryz.func60, Tryz.ntmps60
    go_wp2_with fail
    go_still_tail 6, (by kernel_rfl)
    go_wp2_with fail
    refine HH.out.mono ?_
    rintro e w' ⟨h1, h2, rfl, h3⟩
    exact ⟨rfl, h1, h2, rfl, h3⟩
  | ok s2 =>
    rw [hr] at HH
    go_enter Tryz.func60, Tryz.ntmps60
    go_wp2_with fail
    go_still_tail 6, (by kernel_rfl)
    go_wp2_with fail
    refine HH.out.mono ?_
    rintro e w' ⟨h1, h2, rfl, h3⟩
    go_wp2_with fail
    go_end0
    exact ⟨h1, h2, rfl, h3⟩
theorem KeepAll.base {w : World} {b b' : Nat} (hb : b' ≤ b) : ∀ {ac : List Act5} {kvs : List Value}, KeepAll w b ac kvs → KeepAll w b' ac kvs
  | [], kvs, h => h
  | a :: ac, kvs, h => by
    obtain ⟨kv, kvs', rfl, ⟨h1, h5⟩, h2⟩ := h
    exact ⟨kv, kvs', rfl, ⟨row_base h1 hb, h5⟩, h2.base hb⟩
theorem ActsAt.base {w : World} {b b' : Nat} {v : Value} {ac : List Act5} (h : ActsAt w b v ac) (hb : b' ≤ b) : ActsAt w b' v ac := by
  obtain ⟨kvs, h1, h2⟩ := h
  exact ⟨kvs, row_base h1 hb, h2.base hb⟩
/-- The world in which guard is called. -/
def machW (w : World) : World := ((w.alloc (.map #[] 0)).alloc (.cells #[.map (some w.heap.size), .int .i64 0, .slice none 0 0, .int .i64 0] 121)).alloc (.cells #[ptr (w.heap.size + 1)] 117)
theorem mach_guard {w : World} {P6 B : Nat} {vt : Value} {ps : List Nat} {ss : List Stm} (hP : w.cell? ⟨P6, 0, none⟩ = some (ptr B)) (hv : w.cell? ⟨B, 4, none⟩ = some vt) (hrow : PRow w vt ps) (hs : StmsAt w (fun k => k < w.heap.size) ps ss) (ha : Acts w) :
    Calls Tryz.prog 59 #[.func (.func 60) #[] #[ptr (w.heap.size + 2), ptr P6]] (machW w) (fun e w' => Below w.heap.size w w' ∧ w'.cell? ⟨w.heap.size + 2, 0, none⟩ = some (ptr (w.heap.size + 1)) ∧ match runL ss begun with
      | .error (k, l) => e = .returned (.int .i64 k) ∧ w'.cell? ⟨w.heap.size + 1, 3, none⟩ = some (.int .i64 l)
      | .ok s => e = .returned (.int .i64 0) ∧ ∃ va, w'.cell? ⟨w.heap.size + 1, 2, none⟩ = some va ∧ ActsAt w' w.heap.size va s.acts ∧ s.acts.length ≤ 4096) := by
  obtain ⟨w1, hw1⟩ : ∃ w1, w1 = w.alloc (.map #[] 0) := ⟨_, rfl⟩
  obtain ⟨w2, hw2⟩ : ∃ w2, w2 = w1.alloc (.cells #[.map (some w.heap.size), .int .i64 0, .slice none 0 0, .int .i64 0] 121) := ⟨_, rfl⟩
  obtain ⟨w3, hw3⟩ : ∃ w3, w3 = w2.alloc (.cells #[ptr (w.heap.size + 1)] 117) := ⟨_, rfl⟩
  obtain ⟨w4, hw4⟩ : ∃ w4, w4 = w3.alloc (.cells #[.int .i64 0] 38) := ⟨_, rfl⟩
  have hmw : machW w = w3 := by rw [hw3, hw2, hw1]; rfl
  rw [hmw]
  have z1 : w1.heap.size = w.heap.size + 1 := by rw [hw1]; simp
  have z2 : w2.heap.size = w.heap.size + 2 := by rw [hw2]; simp [z1]
  have z3 : w3.heap.size = w.heap.size + 3 := by rw [hw3]; simp [z2]
  have z4 : w4.heap.size = w.heap.size + 4 := by rw [hw4]; simp [z3]
  have l1 : Below w.heap.size w w1 := by rw [hw1]; exact (Below.refl _ _).alloc (Nat.le_refl _) _
  have l12 : Below w1.heap.size w1 w2 := by rw [hw2]; exact (Below.refl _ _).alloc (Nat.le_refl _) _
  have l23 : Below w2.heap.size w2 w3 := by rw [hw3]; exact (Below.refl _ _).alloc (Nat.le_refl _) _
  have l34 : Below w3.heap.size w3 w4 := by rw [hw4]; exact (Below.refl _ _).alloc (Nat.le_refl _) _
  have l24 : Below w2.heap.size w2 w4 := l23.trans (l34.mono (by omega))
  have l14 : Below w1.heap.size w1 w4 := l12.trans (l24.mono (by omega))
  have l4 : Below w.heap.size w w4 := l1.trans (l14.mono (by omega))
  have sc1 : ScN w1 w.heap.size 0 (fun _ => none) := by rw [hw1]; exact ScN.made w
  have m2 : MBlk w2 (w.heap.size + 1) w.heap.size 0 (.slice none 0 0) 0 := by rw [hw2, ← z1]; exact Blk.new w1 _ _
  have p3 : Blk w3 (w.heap.size + 2) #[ptr (w.heap.size + 1)] 117 := by rw [hw3, ← z2]; exact Blk.new w2 _ _
  have e4 : Blk w4 (w.heap.size + 3) #[.int .i64 0] 38 := by rw [hw4, ← z3]; exact Blk.new w3 _ _
  have p4 : Blk w4 (w.heap.size + 2) #[ptr (w.heap.size + 1)] 117 := Blk.below p3 l34
  have hst : MSt w.heap.size (w.heap.size + 1) w.heap.size w4 0 begun :=
    ⟨.slice none 0 0, Blk.below m2 l24, by decide, sc1.below l14, ⟨[], World.ownsRow_nil _ _ _ _, rfl⟩, by omega, Nat.le_refl _, by decide⟩
  have HC := comp1_any (w := w4) (F := fun k => k < w.heap.size) (b0 := w.heap.size) (mb := w.heap.size + 1) (m := w.heap.size) (PM := w.heap.size + 2) (PB := P6) (B := B) (line := 0) (s := begun) (v := vt) (ps := ps) (ss := ss)
    (p4.one) (cell_below hP l4) (cell_below hv l4) (fun k hk => hk) (row_stays (M := fun _ => False) hrow (.of l4) (fun _ _ h => h)) (fun k hk => (hrow.lt k hk).2) (StmsAt.keep l4.size (fun k hk => l4.block k hk) ss ps hs) (ha.below l4) (by have := ha.1; omega) (by omega) hst
  have hE : ∀ w', Kept3 w4 w' → w'.cell? ⟨w3.heap.size, 0, none⟩ = some (.int .i64 0) ∧ w'.frozen? ⟨w3.heap.size, 0, none⟩ = false := fun w' h => by
    rw [z3]
    have hb : Blk w' (w.heap.size + 3) #[.int .i64 0] 38 := (h _ _ 38 _ (by decide) (by decide) e4).trans e4
    exact ⟨hb.one, hb.frozen 0⟩
  have hPM : ∀ w', Kept3 w4 w' → Blk w' (w.heap.size + 2) #[ptr (w.heap.size + 1)] 117 := fun w' h => (h _ _ 117 _ (by decide) (by decide) p4).trans p4
  cases hr : runL ss begun with
  | error ke =>
    obtain ⟨k, l⟩ := ke
    rw [hr] at HC
    refine (guard_err (w := w3) (k := k) (Q := fun w' => Below w.heap.size w4 w' ∧ Kept3 w4 w' ∧ w'.cell? ⟨w.heap.size + 1, 3, none⟩ = some (.int .i64 l)) enters60 (by rw [← hw4]; exact HC.mono fun e w' ⟨h1, h2, h3, h4⟩ => ⟨h3, h1, h2, h4⟩) (fun w' h => hE w' h.2.1)).mono ?_
    rintro e w' ⟨rfl, w5, ⟨h1, h2, h3⟩, h4⟩
    rw [z3] at h4
    have h45 := h1.size
    refine ⟨(l4.trans h1).trans (h4.below (by omega) (fun k hk e => by omega)), stays_cell h4 (hPM w5 h2).one (by show w.heap.size + 2 ≠ _; omega), rfl, stays_cell h4 h3 (by show w.heap.size + 1 ≠ _; omega)⟩
  | ok s2 =>
    rw [hr] at HC
    refine (guard_ok (w := w3) (Q := fun w' => Below w.heap.size w4 w' ∧ Kept3 w4 w' ∧ ∃ line, MSt w.heap.size (w.heap.size + 1) w.heap.size w' line s2) enters60 (by rw [← hw4]; exact HC.mono fun e w' ⟨h1, h2, h3, h4⟩ => ⟨h3, h1, h2, h4⟩) (fun w' h => hE w' h.2.1)).mono ?_
    rintro e w' ⟨rfl, w5, ⟨h1, h2, line, va, h3, _, _, h6, _, _, h9⟩, rfl⟩
    have h4 : Stays (fun j => j = w.heap.size + 3) w5 (w5.setCell ⟨w3.heap.size, 0, none⟩ (.int .i64 0)) := by rw [z3]; exact Stays.cell (.refl _ w5) 0 _
    have h45 := h1.size
    have hE5 : Blk w5 (w.heap.size + 3) #[.int .i64 0] 38 := (h2 _ _ 38 _ (by decide) (by decide) e4).trans e4
    refine ⟨(l4.trans h1).trans (h4.below (by omega) (fun k hk e => by omega)), stays_cell h4 (hPM w5 h2).one (by show w.heap.size + 2 ≠ _; omega), rfl, va, ?_, ?_, h9⟩
    · exact stays_cell h4 ((Blk.cell h3 2).trans rfl) (by show w.heap.size + 1 ≠ _; omega)
    · exact h6.typed (.blk hE5 ⟨by decide, by decide⟩ h4)
end Go.Proofs.YtddnmocoaahlfaaGreatDoor
