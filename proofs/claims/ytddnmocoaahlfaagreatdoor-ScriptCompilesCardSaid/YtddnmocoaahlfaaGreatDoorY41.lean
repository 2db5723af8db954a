/-
  The execution of a script within guard, and plain facts of its reading.
  The contract of Compile. Conditions: as in Run; the library's variables hold some int and some error or none; the table of the kinds of acts is laid.
-/
import Derived.Test.YtddnmocoaahlfaaGreatDoorAdd2
import Derived.Test.YtddnmocoaahlfaaGreatDoorRun
import Derived.StillTailTactics
import Derived.Test.YtddnmocoaahlfaaGreatDoorY27
import Derived.Deep.DeepCutAuto
set_option linter.unusedVariables false
set_option linter.unusedSimpArgs false
set_option maxRecDepth 100000
namespace Go.Proofs.YtddnmocoaahlfaaGreatDoor
open Go.RowKit Go.Shelf
/-! Plain facts. -/
theorem stepL_err {l : Nat} {s : Ran} {e : Int} {k : Nat} (h : stepL l s = .error (e, k)) : e = 5 := by
  unfold stepL at h
  split at h
  · injection h with h; injection h with h _; exact h.symm
  · cases h
def Code3 (e : Int) : Prop := e = 5 ∨ e = 100 ∨ e = 101
theorem loopL_err {f : Ran → Res} (hf : ∀ s e k, f s = .error (e, k) → Code3 e) {l : Nat} (n : List UInt8) : ∀ (j : Nat) (v hi : Int) (s : Ran) (e : Int) (k : Nat), loopL f l n j v hi s = .error (e, k) → Code3 e := by
  intro j
  induction j with
  | zero => intro v hi s e k h; cases h
  | succ j ih =>
    intro v hi s e k h
    unfold loopL at h
    split at h
    · split at h
      · rename_i e' he; injection h with h; subst h; exact .inl (stepL_err he)
      · split at h
        · rename_i e' he; injection h with h; subst h; exact hf _ _ _ he
        · exact ih _ _ _ _ _ h
    · cases h
theorem evalAll_err {σ : List UInt8 → Option Int} : ∀ {xs : List Ex} {e : Int}, evalAll σ xs = .error e → e = 100 ∨ e = 101
  | [], e, h => by simp only [evalAll] at h; cases h
  | x :: xs, e, h => by
    simp only [evalAll] at h
    cases hx : x.eval σ with
    | error k => rw [hx] at h; injection h with h; subst h; exact eval_err hx
    | ok v =>
      rw [hx] at h
      cases hxs : evalAll σ xs with
      | error k => rw [hxs] at h; injection h with h; subst h; exact evalAll_err hxs
      | ok vs => rw [hxs] at h; cases h
mutual
theorem runS_err : ∀ (a : Stm) (s : Ran) (e : Int) (k : Nat), runS a s = .error (e, k) → Code3 e
  | .mk l kd n xs bd ot, s, e, k, hr => by
    have ihb := runL_err bd
    have iho := runL_err ot
    unfold runS at hr
    split at hr
    · rename_i e' he; injection hr with hr; subst hr; exact .inl (stepL_err he)
    · split at hr
      · rename_i e' he; injection hr with hr; injection hr with hr _; subst hr; exact .inr (evalAll_err he)
      · split at hr
        · cases hr
        split at hr
        · exact loopL_err ihb n _ _ _ _ _ _ hr
        split at hr
        · split at hr
          · exact ihb _ _ _ hr
          · exact iho _ _ _ hr
        split at hr
        · injection hr with hr; injection hr with hr _; exact .inl hr.symm
        · cases hr
theorem runL_err : ∀ (a : List Stm) (s : Ran) (e : Int) (k : Nat), runL a s = .error (e, k) → Code3 e
  | [], s, e, k, hr => by unfold runL at hr; cases hr
  | x :: xs, s, e, k, hr => by
    unfold runL at hr
    split at hr
    · rename_i e' he; injection hr with hr; subst hr; exact runS_err x _ _ _ he
    · exact runL_err xs _ _ _ hr
end
def Small (N : Nat) (b : Bld) : Prop := b.top.length ≤ N ∧ (∀ o ∈ b.open_, o.body.length ≤ N ∧ o.other.length ≤ N) ∧ b.open_.length ≤ 16
theorem Small.mono {N M : Nat} {b : Bld} (h : Small N b) (hN : N ≤ M) : Small M b := ⟨Nat.le_trans h.1 hN, fun o ho => ⟨Nat.le_trans (h.2.1 o ho).1 hN, Nat.le_trans (h.2.1 o ho).2 hN⟩, h.2.2⟩
theorem Small.cur {N : Nat} {b : Bld} (h : Small N b) : (curList b).length ≤ N := by
  obtain ⟨top, os⟩ := b
  cases os with
  | nil => exact h.1
  | cons o os =>
    unfold curList
    simp only
    have := h.2.1 o (by simp)
    split
    · exact this.2
    · exact this.1
theorem Small.put {N : Nat} {b : Bld} (h : Small N b) (s : Stm) : Small (N + 1) (b.put s) := by
  obtain ⟨top, os⟩ := b
  cases os with
  | nil =>
    refine ⟨?_, (fun o ho => by cases ho), h.2.2⟩
    have := h.1
    show (top ++ [s]).length ≤ _
    simp at this ⊢
    omega
  | cons o os =>
    have h1 := h.1
    have h2 := h.2.1
    refine ⟨Nat.le_succ_of_le h1, fun o' ho' => ?_, h.2.2⟩
    have ho := h2 o (by simp)
    rcases List.mem_cons.1 ho' with rfl | hm
    · unfold Opn.put
      split
      · simp; omega
      · simp; omega
    · have := h2 o' (by simp [hm]); omega
theorem closeL_small {N : Nat} {b b' : Bld} {w : List (List UInt8)} (hb : Small N b) (h : closeL b w = some b') : Small (N + 1) b' := by
  unfold closeL at h
  obtain ⟨top, os⟩ := b
  cases os with
  | nil => cases h
  | cons o os =>
    simp only at h
    split at h
    · cases h
    · split at h
      · injection h with h
        subst h
        refine Small.put (b := ⟨top, os⟩) ⟨hb.1, fun o' ho' => hb.2.1 o' (by simp [ho']), ?_⟩ _
        have := hb.2.2
        simp at this ⊢
        omega
      · split at h
        · cases h
        · injection h with h
          subst h
          refine ⟨Nat.le_succ_of_le hb.1, fun o' ho' => ?_, by simpa using hb.2.2⟩
          rcases List.mem_cons.1 ho' with rfl | hm
          · have := hb.2.1 o (by simp); simp only; omega
          · have := hb.2.1 o' (by simp [hm]); omega
theorem addL_small {N line : Nat} {b b' : Bld} {w : List (List UInt8)} (hb : Small N b) (h : addL line w b = some b') : Small (N + 1) b' := by
  unfold addL at h
  split at h
  · injection h with h; subst h; exact hb.mono (Nat.le_succ _)
  · split at h
    · exact closeL_small hb h
    · split at h
      · cases h
      · split at h
        · split at h
          · rename_i h16
            injection h with h
            subst h
            refine ⟨Nat.le_succ_of_le hb.1, fun o' ho' => ?_, by simpa using h16⟩
            rcases List.mem_cons.1 ho' with rfl | hm
            · simp
            · have := hb.2.1 o' hm; omega
          · cases h
        · injection h with h; subst h; exact hb.put _
/-! The execution within guard. -/
theorem enters60 (args : Array Value) (w : World) : (callFunc 60 args).run Tryz.prog w = .ok (.enter 60 args) w := enters_of Tryz.func60 (by kernel_rfl) rfl args w
theorem below_drew  (b0 : Nat) (w : World) : Below b0 w w.drew := ⟨rfl, rfl, rfl, Nat.le_refl _, fun _ _ => rfl⟩
theorem RetRun.drew {b0 mb m : Nat} {w w' : World} {r : Res} {e : Ending} (h : RetRun b0 mb m w.drew r e w') : RetRun b0 mb m w r e w' := ⟨(below_drew b0 w).trans h.1, h.2.1, h.2.2⟩
set_option maxHeartbeats 2000000 in
theorem comp1_any {w : World} {F : Nat → Prop} {b0 mb m PM PB B : Nat} {line : Int} {s : Ran} {v : Value} {ps : List Nat} {ss : List Stm} (hM : w.cell? ⟨PM, 0, none⟩ = some (ptr mb)) (hB : w.cell? ⟨PB, 0, none⟩ = some (ptr B)) (hv : w.cell? ⟨B, 4, none⟩ = some v)
    (hF : ∀ k, F k → k < b0) (hrow : PRow w v ps) (hvF : ∀ k, v.ownBlock = some k → F k) (hs : StmsAt w F ps ss) (ha : Acts w) (hb0 : 0 < b0) (hbw : b0 ≤ w.heap.size) (hm : MSt b0 mb m w line s) :
    Calls Tryz.prog 60 #[ptr PM, ptr PB] w (RetRun b0 mb m w (runL ss s)) := by
  have hs' : StmsAt w.drew F ps ss := StmsAt.keep (w := w) (w' := w.drew) (Nat.le_refl _) (fun _ _ => rfl) ss ps hs
  obtain ⟨va, m1, m2, m3, m4, m5, m6, m7⟩ := hm
  have H := run_all ss w.drew F b0 mb m line s v ps hF (row_keep hrow (fun _ _ => rfl)) hvF hs' ⟨ha.1, ha.2⟩ hb0 hbw ⟨va, Blk.below m1 (below_drew _ _), m2, m3.below (below_drew _ _), m4.typed (RowsKept.below (below_drew _ _)), m5, m6, m7⟩
  have HH := Lib.hid (H.mono fun e w' h => RetRun.drew h)
  clear H hs hs' hrow
  cases hr : runL ss s with
  | error ke =>
    obtain ⟨k, l⟩ := ke
    rw [hr] at HH
    go_enter Tryz.func60, Tryz.ntmps60
    go_wp2_with fail
    go_still_tail 6, (by kernel_rfl)
    go_wp2_with fail
    refine HH.out.mono ?_
    rintro e w' ⟨h1, h2, rfl, h3⟩
    exact ⟨rfl, h1, h2, rfl, h3⟩
  | ok s2 =>
    rw [hr] at HH
    go_enter Tryz.func60, Tryz.ntmps60
    go_wp2_with fail
    go_still_tail 6, (by kernel_rfl)
    go_wp2_with fail
    refine HH.out.mono ?_
    rintro e w' ⟨h1, h2, rfl, h3⟩
    go_wp2_with fail
    go_end0
    exact ⟨h1, h2, rfl, h3⟩
theorem KeepAll.base {w : World} {b b' : Nat} (hb : b' ≤ b) : ∀ {ac : List Act5} {kvs : List Value}, KeepAll w b ac kvs → KeepAll w b' ac kvs
  | [], kvs, h => h
  | a :: ac, kvs, h => by
    obtain ⟨kv, kvs', rfl, ⟨h1, h5⟩, h2⟩ := h
    exact ⟨kv, kvs', rfl, ⟨row_base h1 hb, h5⟩, h2.base hb⟩
theorem ActsAt.base {w : World} {b b' : Nat} {v : Value} {ac : List Act5} (h : ActsAt w b v ac) (hb : b' ≤ b) : ActsAt w b' v ac := by
  obtain ⟨kvs, h1, h2⟩ := h
  exact ⟨kvs, row_base h1 hb, h2.base hb⟩
def machW (w : World) : World := ((w.alloc (.map #[] 0)).alloc (.cells #[.map (some w.heap.size), .int .i64 0, .slice none 0 0, .int .i64 0] 121)).alloc (.cells #[ptr (w.heap.size + 1)] 117)
theorem mach_guard {w : World} {P6 B : Nat} {vt : Value} {ps : List Nat} {ss : List Stm} (hP : w.cell? ⟨P6, 0, none⟩ = some (ptr B)) (hv : w.cell? ⟨B, 4, none⟩ = some vt) (hrow : PRow w vt ps) (hs : StmsAt w (fun k => k < w.heap.size) ps ss) (ha : Acts w) :
    Calls Tryz.prog 59 #[.func (.func 60) #[] #[ptr (w.heap.size + 2), ptr P6]] (machW w) (fun e w' => Below w.heap.size w w' ∧ w'.cell? ⟨w.heap.size + 2, 0, none⟩ = some (ptr (w.heap.size + 1)) ∧ match runL ss begun with
      | .error (k, l) => e = .returned (.int .i64 k) ∧ w'.cell? ⟨w.heap.size + 1, 3, none⟩ = some (.int .i64 l)
      | .ok s => e = .returned (.int .i64 0) ∧ ∃ va, w'.cell? ⟨w.heap.size + 1, 2, none⟩ = some va ∧ ActsAt w' w.heap.size va s.acts ∧ s.acts.length ≤ 4096) := by
  obtain ⟨w1, hw1⟩ : ∃ w1, w1 = w.alloc (.map #[] 0) := ⟨_, rfl⟩
  obtain ⟨w2, hw2⟩ : ∃ w2, w2 = w1.alloc (.cells #[.map (some w.heap.size), .int .i64 0, .slice none 0 0, .int .i64 0] 121) := ⟨_, rfl⟩
  obtain ⟨w3, hw3⟩ : ∃ w3, w3 = w2.alloc (.cells #[ptr (w.heap.size + 1)] 117) := ⟨_, rfl⟩
  obtain ⟨w4, hw4⟩ : ∃ w4, w4 = w3.alloc (.cells #[.int .i64 0] 38) := ⟨_, rfl⟩
  have hmw : machW w = w3 := by rw [hw3, hw2, hw1]; rfl
  rw [hmw]
  have z1 : w1.heap.size = w.heap.size + 1 := by rw [hw1]; simp
  have z2 : w2.heap.size = w.heap.size + 2 := by rw [hw2]; simp [z1]
  have z3 : w3.heap.size = w.heap.size + 3 := by rw [hw3]; simp [z2]
  have z4 : w4.heap.size = w.heap.size + 4 := by rw [hw4]; simp [z3]
  have l1 : Below w.heap.size w w1 := by rw [hw1]; exact (Below.refl _ _).alloc (Nat.le_refl _) _
  have l12 : Below w1.heap.size w1 w2 := by rw [hw2]; exact (Below.refl _ _).alloc (Nat.le_refl _) _
  have l23 : Below w2.heap.size w2 w3 := by rw [hw3]; exact (Below.refl _ _).alloc (Nat.le_refl _) _
  have l34 : Below w3.heap.size w3 w4 := by rw [hw4]; exact (Below.refl _ _).alloc (Nat.le_refl _) _
  have l24 : Below w2.heap.size w2 w4 := l23.trans (l34.mono (by omega))
  have l14 : Below w1.heap.size w1 w4 := l12.trans (l24.mono (by omega))
  have l4 : Below w.heap.size w w4 := l1.trans (l14.mono (by omega))
  have sc1 : ScN w1 w.heap.size 0 (fun _ => none) := by rw [hw1]; exact ScN.made w
  have m2 : MBlk w2 (w.heap.size + 1) w.heap.size 0 (.slice none 0 0) 0 := by rw [hw2, ← z1]; exact Blk.new w1 _ _
  have p3 : Blk w3 (w.heap.size + 2) #[ptr (w.heap.size + 1)] 117 := by rw [hw3, ← z2]; exact Blk.new w2 _ _
  have e4 : Blk w4 (w.heap.size + 3) #[.int .i64 0] 38 := by rw [hw4, ← z3]; exact Blk.new w3 _ _
  have p4 : Blk w4 (w.heap.size + 2) #[ptr (w.heap.size + 1)] 117 := Blk.below p3 l34
  have hst : MSt w.heap.size (w.heap.size + 1) w.heap.size w4 0 begun :=
    ⟨.slice none 0 0, Blk.below m2 l24, by decide, sc1.below l14, ⟨[], World.ownsRow_nil _ _ _ _, rfl⟩, by omega, Nat.le_refl _, by decide⟩
  have HC := comp1_any (w := w4) (F := fun k => k < w.heap.size) (b0 := w.heap.size) (mb := w.heap.size + 1) (m := w.heap.size) (PM := w.heap.size + 2) (PB := P6) (B := B) (line := 0) (s := begun) (v := vt) (ps := ps) (ss := ss)
    (p4.one) (cell_below hP l4) (cell_below hv l4) (fun k hk => hk) (row_stays (M := fun _ => False) hrow (.of l4) (fun _ _ h => h)) (fun k hk => (hrow.lt k hk).2) (StmsAt.keep l4.size (fun k hk => l4.block k hk) ss ps hs) (ha.below l4) (by have := ha.1; omega) (by omega) hst
  have hE : ∀ w', Kept3 w4 w' → w'.cell? ⟨w3.heap.size, 0, none⟩ = some (.int .i64 0) ∧ w'.frozen? ⟨w3.heap.size, 0, none⟩ = false := fun w' h => by
    rw [z3]
    have hb : Blk w' (w.heap.size + 3) #[.int .i64 0] 38 := (h _ _ 38 _ (by decide) (by decide) e4).trans e4
    exact ⟨hb.one, hb.frozen 0⟩
  have hPM : ∀ w', Kept3 w4 w' → Blk w' (w.heap.size + 2) #[ptr (w.heap.size + 1)] 117 := fun w' h => (h _ _ 117 _ (by decide) (by decide) p4).trans p4
  cases hr : runL ss begun with
  | error ke =>
    obtain ⟨k, l⟩ := ke
    rw [hr] at HC
    refine (guard_err (w := w3) (k := k) (Q := fun w' => Below w.heap.size w4 w' ∧ Kept3 w4 w' ∧ w'.cell? ⟨w.heap.size + 1, 3, none⟩ = some (.int .i64 l)) enters60 (by rw [← hw4]; exact HC.mono fun e w' ⟨h1, h2, h3, h4⟩ => ⟨h3, h1, h2, h4⟩) (fun w' h => hE w' h.2.1)).mono ?_
    rintro e w' ⟨rfl, w5, ⟨h1, h2, h3⟩, h4⟩
    rw [z3] at h4
    have h45 := h1.size
    refine ⟨(l4.trans h1).trans (h4.below (by omega) (fun k hk e => by omega)), stays_cell h4 (hPM w5 h2).one (by show w.heap.size + 2 ≠ _; omega), rfl, stays_cell h4 h3 (by show w.heap.size + 1 ≠ _; omega)⟩
  | ok s2 =>
    rw [hr] at HC
    refine (guard_ok (w := w3) (Q := fun w' => Below w.heap.size w4 w' ∧ Kept3 w4 w' ∧ ∃ line, MSt w.heap.size (w.heap.size + 1) w.heap.size w' line s2) enters60 (by rw [← hw4]; exact HC.mono fun e w' ⟨h1, h2, h3, h4⟩ => ⟨h3, h1, h2, h4⟩) (fun w' h => hE w' h.2.1)).mono ?_
    rintro e w' ⟨rfl, w5, ⟨h1, h2, line, va, h3, _, _, h6, _, _, h9⟩, rfl⟩
    have h4 : Stays (fun j => j = w.heap.size + 3) w5 (w5.setCell ⟨w3.heap.size, 0, none⟩ (.int .i64 0)) := by rw [z3]; exact Stays.cell (.refl _ w5) 0 _
    have h45 := h1.size
    have hE5 : Blk w5 (w.heap.size + 3) #[.int .i64 0] 38 := (h2 _ _ 38 _ (by decide) (by decide) e4).trans e4
    refine ⟨(l4.trans h1).trans (h4.below (by omega) (fun k hk e => by omega)), stays_cell h4 (hPM w5 h2).one (by show w.heap.size + 2 ≠ _; omega), rfl, va, ?_, ?_, h9⟩
    · exact stays_cell h4 ((Blk.cell h3 2).trans rfl) (by show w.heap.size + 1 ≠ _; omega)
    · exact h6.typed (.blk hE5 ⟨by decide, by decide⟩ h4)
end Go.Proofs.YtddnmocoaahlfaaGreatDoor
namespace Go.Proofs.YtddnmocoaahlfaaGreatDoor
open Go.RowKit Go.Shelf
def RetComp (w : World) (r : Except (Nat × Int) (List Act5)) (e : Ending) (w' : World) : Prop := Below w.heap.size w w' ∧ match r with
  | .error (k, c) => e = .returned (.tuple #[.slice none 0 0, .int .i64 k, .int .i64 c])
  | .ok acts => acts.length ≤ 4096 ∧ ∃ v, e = .returned (.tuple #[v, .int .i64 0, .int .i64 0]) ∧ ActsAt w' w.heap.size v acts
theorem emp_of {x : ByteArray} (h : x.toList.isEmpty = true) : txt x = [] := by rw [ByteArray.toList_eq] at h; exact List.isEmpty_iff.1 h
theorem nemp_of {x : ByteArray} (h : x.toList.isEmpty = false) : txt x ≠ [] := by
  rw [ByteArray.toList_eq] at h
  intro e
  rw [show x.data.toList = [] from e] at h
  cases h
theorem hmakemap (t : TypeId) (w : World) : (Instr.makeMap t none).run Tryz.prog w = .ok (.map (some w.heap.size)) (w.alloc (.map #[] 0)) := rfl
theorem lines_take {ss : List ByteArray} {t : List UInt8} (h : ss.map txt = cutAt 10 t) {x : ByteArray} {n : Nat} (hn : ss.length = n + 1) (hx : ss[n]? = some x) : linesL t = if txt x = [] then (ss.take n).map txt else ss.map txt := by
  unfold linesL
  simp only
  rw [← h]
  have hl : (ss.map txt).getLastD [] = txt x := by
    rw [List.getLastD_eq_getLast?, List.getLast?_eq_getElem?, List.length_map, hn, Nat.add_sub_cancel, List.getElem?_map, hx]; rfl
  rw [hl]
  split
  · rw [← List.map_dropLast, List.dropLast_eq_take, hn, Nat.add_sub_cancel]
  · rfl
theorem readL_idle {k : Nat} {l : List UInt8} {ls : List (List UInt8)} {b : Bld} (h : wordsL l = [] ∨ ((wordsL l).headD []).headD 0 = 35) : readL k (l :: ls) b = readL (k + 1) ls b := by
  conv => lhs; unfold readL
  simp only
  rw [if_pos h]
theorem readL_add {k : Nat} {l : List UInt8} {ls : List (List UInt8)} {b : Bld} (h : ¬ (wordsL l = [] ∨ ((wordsL l).headD []).headD 0 = 35)) : readL k (l :: ls) b = match addL (k + 1) (wordsL l) b with | none => .error (k + 1) | some b1 => readL (k + 1) ls b1 := by
  conv => lhs; unfold readL
  simp only
  rw [if_neg h]
  rfl
theorem BAt.finish {w : World} {own : Owns} {B B0 : Nat} {b : Bld} {ps : List Nat} (hb : BAt w own B B0 b [] ps) (h : b.open_ = []) : ∃ vt pst, w.cell? ⟨B, 4, none⟩ = some vt ∧ PRow w vt pst ∧ StmsAt w (fun k => k < w.heap.size) pst b.top := by
  obtain ⟨top, os⟩ := b
  subst h
  obtain ⟨h1, h2, vt, vl, pst, h3, h4, h5, h6, h7⟩ := hb
  unfold OpnsAt at h7
  subst h7
  refine ⟨vt, pst, (Blk.cell h3 4).trans rfl, by simpa [outer] using h5.1, StmsAt.wider (fun k hk => hk.2) (fun k hk => hk) top pst h6⟩
theorem BAt.start {w : World} {B : Nat} (h : Blk w B #[.int .i64 0, .string ⟨#[]⟩, .string ⟨#[]⟩, .slice none 0 0, .slice none 0 0, .slice none 0 0, .bool false, .slice none 0 0] 114) : BAt w (fun k => if k = B then some 0 else none) B B ⟨[], []⟩ [] [] := by
  have hlt := Blk.lt h
  refine ⟨fun k s hk => ?_, if_pos rfl, .slice none 0 0, .slice none 0 0, [], h, ⟨World.ownsRow_nil _ _ _ _, fun k hk => by cases hk⟩, ⟨World.ownsRow_nil _ _ _ _, fun k hk => by cases hk⟩, by unfold StmsAt; rfl, by unfold OpnsAt; rfl⟩
  by_cases e : k = B
  · subst e; exact ⟨hlt, Nat.le_refl _⟩
  · simp only at hk; rw [if_neg e] at hk; cases hk
set_option maxHeartbeats 8000000 in
theorem compile_any {w : World} (hm : MaxV w) (he : ErrR w) (ha : Acts w) (s : ByteArray) : Calls Tryz.prog 29 #[.string s] w (RetComp w (compileL (txt s))) := by
  obtain ⟨res, hres⟩ : ∃ res, res = compileL (txt s) := ⟨_, rfl⟩
  rw [← hres]
  have hsl : (txt s).length = s.size := by simp
  by_cases hbig : 65536 < s.size
  · have hr : res = .error (0, 5) := by rw [hres]; unfold compileL; rw [if_pos (by omega)]
    have HR := Lib.hid hr
    have hd : decide ((65536 : Int) < (s.size : Int)) = true := decide_eq_true (by omega)
    clear hr hres hsl
    go_enter Tryz.func29, Tryz.ntmps29
    go_wp2_with fail
    go_ret3
    unfold RetComp
    rw [HR.out]
    exact ⟨Below.refl _ _, rfl⟩
  · have hd : decide ((65536 : Int) < (s.size : Int)) = false := decide_eq_false (by omega)
    have hres2 : res = match readL 0 (linesL (txt s)) ⟨[], []⟩ with
      | .error i => .error (i, 4)
      | .ok b => if b.open_ ≠ [] then .error ((linesL (txt s)).length + 1, 4) else match runL b.top begun with | .error (e, line) => .error (line, e) | .ok s => .ok s.acts := by
      rw [hres]; unfold compileL; rw [if_neg (by omega)]; rfl
    have HS := Lib.hid (split_any hm s 10 (by omega))
    have HRS := Lib.hid hres2
    have hcl := cut_len 10 (txt s)
    have hcn := cutAt_ne 10 (txt s)
    have h6 : 6 < w.heap.size := by obtain ⟨ev, h, _⟩ := he; exact World.block_lt_of_cell? w _ h
    have HM := Lib.hid hm
    have HE := Lib.hid he
    have HA := Lib.hid ha
    clear hres hres2 hm he ha
    go_enter Tryz.func29, Tryz.ntmps29
    go_wp2_with fail
    refine HS.out.mono ?_
    rintro e w1 ⟨ss, rfl, hss, hw1⟩
    rw [← hss] at hcl hcn
    obtain ⟨n, hn⟩ : ∃ n, ss.length = n + 1 := ⟨ss.length - 1, by have : ss ≠ [] := fun e => hcn (by rw [e]; rfl); have := List.length_pos_iff.2 this; omega⟩
    have b1 : Blk w1 w.heap.size (ss.map Value.string).toArray 9 := by rw [hw1]; exact Blk.new w _ _
    have l1 : Below w.heap.size w w1 := by rw [hw1]; exact (Below.refl _ _).alloc (Nat.le_refl _) _
    have z1 : w1.heap.size = w.heap.size + 1 := by rw [hw1]; simp
    have hn6 : n + 1 ≤ 65537 := by have := hcl.2; simp at this; omega
    have hsz : ∀ x ∈ ss, x.size ≤ 65536 := fun x hx => by
      have := hcl.1 (txt x) (List.mem_map.2 ⟨x, hx, rfl⟩)
      simp at this
      omega
    have hcur : ∀ k (hk : k < ss.length), w1.cell? ⟨w.heap.size, k, none⟩ = some (.string ss[k]) := fun k hk => by rw [b1.cell k]; simp [hk]
    obtain ⟨x, hx⟩ : ∃ x, ss[n]? = some x := ⟨ss[n], List.getElem?_eq_getElem (by omega)⟩
    have cl : w1.cell? ⟨w.heap.size, n, none⟩ = some (.string x) := by
      obtain ⟨h1, h2⟩ := List.getElem?_eq_some_iff.1 hx
      rw [hcur n h1, h2]
    have HLT := Lib.hid (lines_take hss hn hx)
    have HC := Lib.hid hcur
    have HSZ := Lib.hid hsz
    have HN := Lib.hid hn
    have hwr : IntKind.i64.wrap (n : Int) = n := IntWalk.i64_in _ (by omega)
    rw [hn]
    clear hcur hsz hcl hcn hss hw1 hx hn HS b1
    go_upto_if 23 with fail
    go_cut [5] (fun v wx => wx = w1 ∧ ∃ N c, v = .slice (some ⟨w.heap.size, 0, none⟩) N c ∧ N ≤ n + 1 ∧ N ≤ c ∧ (ss.take N).map txt = linesL (txt s))
    case first =>
      go_wp2_with fail
      all_goals go_meet
      all_goals (rename_i hb; first | exact ⟨rfl, _, _, rfl, Nat.le_succ _, Nat.le_succ _, (HLT.out.trans (if_pos (emp_of hb))).symm⟩ | exact ⟨rfl, _, _, rfl, Nat.le_refl _, Nat.le_refl _, ((HLT.out.trans (if_neg (nemp_of hb))).trans (by rw [List.take_of_length_le (by rw [HN.out]; exact Nat.le_refl _)])).symm⟩)
    case rest =>
      obtain ⟨hwc, N, c, rfl, hN, hNc, hLL⟩ := hcut
      have hwc' := hwc.symm
      clear hwc
      subst hwc'
      have hB1 : w.heap.size < w1.heap.size := by omega
      have HZ1 := Lib.hid z1
      have hlen : (linesL (txt s)).length = N := by rw [← hLL, List.length_map, List.length_take, HN.out]; omega
      have hget : ∀ k (hk : k < ss.length), k < N → (linesL (txt s)).drop k = txt ss[k] :: (linesL (txt s)).drop (k + 1) := fun k hk hkN => by
        have h1 : k < (linesL (txt s)).length := by rw [hlen]; exact hkN
        rw [List.drop_eq_getElem_cons h1]
        congr 1
        have : (linesL (txt s))[k]? = some (txt ss[k]) := by rw [← hLL, List.getElem?_map, List.getElem?_take, if_pos hkN, List.getElem?_eq_getElem hk]; rfl
        rw [List.getElem?_eq_getElem h1] at this
        injection this
      obtain ⟨w2, hw2⟩ : ∃ w2, w2 = w1.alloc (.cells #[.int .i64 0, .string ⟨#[]⟩, .string ⟨#[]⟩, .slice none 0 0, .slice none 0 0, .slice none 0 0, .bool false, .slice none 0 0] 114) := ⟨_, rfl⟩
      obtain ⟨w3, hw3⟩ : ∃ w3, w3 = w2.alloc (.cells #[ptr w1.heap.size] 108) := ⟨_, rfl⟩
      have z2 : w2.heap.size = w1.heap.size + 1 := by rw [hw2]; simp
      have z3 : w3.heap.size = w1.heap.size + 2 := by rw [hw3]; simp [z2]
      have f1 : BAt w3 (fun k => if k = w1.heap.size then some 0 else none) w1.heap.size w1.heap.size ⟨[], []⟩ [] [] := BAt.start (by rw [hw3, hw2]; exact (Blk.new w1 _ _).alloc _)
      have f2 : w3.cell? ⟨w1.heap.size + 1, 0, none⟩ = some (ptr w1.heap.size) := by
        have : Blk w3 (w1.heap.size + 1) #[ptr w1.heap.size] 108 := by rw [hw3, ← z2]; exact Blk.new w2 _ _
        exact this.one
      have f3 : Below w1.heap.size w1 w3 := by rw [hw3, hw2]; exact ((Below.refl _ _).alloc (Nat.le_refl _) _).alloc (by simp) _
      obtain ⟨rr, hrr⟩ : ∃ rr, rr = readL 0 (linesL (txt s)) ⟨[], []⟩ := ⟨_, rfl⟩
      rw [← hrr] at HRS
      have HG := Lib.hid hget
      have HLN := Lib.hid hlen
      have HRR := Lib.hid hrr
      clear z1 hget hlen hrr hLL HLT cl
      have f4 : w1.heap.size + 1 < w3.heap.size := by omega
      subst hw3
      subst hw2
      have F1 := Lib.hid f1
      have F2 := Lib.hid f2
      have F3 := Lib.hid f3
      have F4 := Lib.hid f4
      clear f1 f2 f3 f4 z2 z3
      go_wp2_with fail
      go_loopw [33] (fun t wr => ∃ (k : Nat) (own : Owns) (b : Bld) (ps : List Nat), t = .int .i64 k ∧ k ≤ N ∧ BAt wr own w1.heap.size w1.heap.size b [] ps ∧ own (w1.heap.size + 1) = none ∧ readL k ((linesL (txt s)).drop k) b = rr ∧ Small k b ∧ Below w1.heap.size w1 wr ∧ wr.cell? ⟨w1.heap.size + 1, 0, none⟩ = some (ptr w1.heap.size) ∧ w1.heap.size + 1 < wr.heap.size) (fun t wr => N - (intOf t).toNat)
      case atStart => exact ⟨0, _, ⟨[], []⟩, [], rfl, Nat.zero_le _, F1.out, if_neg (by omega), HRR.out.symm, ⟨Nat.le_refl _, (fun o ho => by cases ho), by decide⟩, F3.out, F2.out, F4.out⟩
      case round =>
        obtain ⟨k, own, b, ps, rfl, hk, hbat, hP, hev, hsm, hbl, hcB, hlt1⟩ := hrel
        have HEV := Lib.hid hev
        have HBA := Lib.hid hbat
        have HP := Lib.hid hP
        have HSM := Lib.hid hsm
        clear hev hbat hP hsm F1 F2 F3 F4
        by_cases hlt : k < N
        · have hkl : k < ss.length := by rw [HN.out]; omega
          have ck : wr.cell? ⟨w.heap.size, k, none⟩ = some (.string ss[k]) := (hbl.cell (p := ⟨w.heap.size, k, none⟩) hB1).trans (HC.out k hkl)
          have hxs := HSZ.out ss[k] (List.getElem_mem hkl)
          have hll := HG.out k hkl hlt
          generalize ss[k] = xk at *
          have HD := Lib.hid hll
          have hbl0 : Below w.heap.size w wr := l1.trans (hbl.mono (by omega))
          have HW := Lib.hid (words_any (HM.out.below hbl0) xk hxs)
          have hszr := hbl.size
          clear hll
          go_wp2_with fail
          refine HW.out.mono ?_
          rintro e w4 ⟨wv, ws, rfl, hsr, hwd, b4⟩
          have HB4 := Lib.hid (HBA.out.below b4)
          have hc4 := cell_below hcB b4
          have hlt4 : w1.heap.size + 1 < w4.heap.size := Nat.lt_of_lt_of_le hlt1 b4.size
          have hbl4 : Below w1.heap.size w1 w4 := hbl.trans (b4.mono hszr)
          cases ws with
          | nil =>
            have hw0 : wordsL (txt xk) = [] := hwd.1.symm
            have hstep := readL_idle (k := k) (l := txt xk) (ls := (linesL (txt s)).drop (k + 1)) (b := b) (.inl hw0)
            rw [← HD.out, HEV.out] at hstep
            have HST := Lib.hid hstep
            have hwv : ∃ a c, wv = .slice a 0 c := by
              rcases hsr with ⟨_, h⟩ | ⟨h, _⟩
              · exact h
              · exact absurd rfl h
            obtain ⟨wa, wcp, rfl⟩ := hwv
            clear hstep hw0 hsr hwd
            go_wp2_with fail
            go_roundw
            case rel => exact ⟨k + 1, own, b, ps, by go_num, by omega, HB4.out, HP.out, HST.out.symm, HSM.out.mono (Nat.le_succ _), hbl4, hc4, hlt4⟩
            case measure => simp [intOf]; omega
          | cons y yt =>
            have hw0 : wordsL (txt xk) = txt y :: yt.map txt := hwd.1.symm
            have hy : txt y ≠ [] := by
              have : txt y ∈ wordsL (txt xk) := by rw [hw0]; simp
              unfold wordsL at this
              have := (List.mem_filter.1 this).2
              simpa using this
            have hys : 0 < y.size := by
              have h1 := List.length_pos_iff.2 hy
              have h2 : (txt y).length = y.size := by simp
              omega
            have hyh : (txt y).headD 0 = y[0] := by
              have := byteAt_lt hys
              unfold byteAt at this
              rwa [List.drop_zero] at this
            obtain ⟨L2, o2, c2, rfl, hc2, hy0, _⟩ := srow_cons hsr
            have h7 := hwd.2.2
            simp only [List.length_cons] at h7
            by_cases h35 : y[0] = 35
            · have hd : (((y[0]).toNat : Int) == 35) = true := by rw [h35]; rfl
              have hstep := readL_idle (k := k) (l := txt xk) (ls := (linesL (txt s)).drop (k + 1)) (b := b) (.inr (by rw [hw0]; show (txt y).headD 0 = 35; rw [hyh, h35]))
              rw [← HD.out, HEV.out] at hstep
              have HST := Lib.hid hstep
              clear hstep hw0 hsr hwd hyh h35
              go_wp2_with fail
              go_roundw
              case rel => exact ⟨k + 1, own, b, ps, by go_num, by omega, HB4.out, HP.out, HST.out.symm, HSM.out.mono (Nat.le_succ _), hbl4, hc4, hlt4⟩
              case measure => simp [intOf]; omega
            · have hd : (((y[0]).toNat : Int) == 35) = false := by
                have : (y[0]).toNat ≠ 35 := fun e => h35 (UInt8.toNat_inj.1 e)
                simp; omega
              have hstep := readL_add (k := k) (l := txt xk) (ls := (linesL (txt s)).drop (k + 1)) (b := b) (by rw [hw0]; rintro (h | h); exact absurd h (by simp); exact h35 (by rw [← hyh]; exact h))
              rw [← HD.out, HEV.out] at hstep
              have hadd := add_any (line := k + 1) HB4.out HSM.out.2.2 (Nat.le_trans HSM.out.cur (by omega)) hsr hwd (by rw [hw0]; simp) (HE.out.below (hbl0.trans (b4.mono (Nat.le_trans l1.size hszr)))) (HA.out.below (hbl0.trans (b4.mono (Nat.le_trans l1.size hszr)))) (by omega) (by omega)
              rw [show ((k + 1 : Nat) : Int) = (k : Int) + 1 from by omega] at hadd
              have HADD := Lib.hid hadd
              clear hadd hw0 hsr hwd hyh h35
              cases hr : addL (k + 1) (wordsL (txt xk)) b with
              | none =>
                rw [hr] at hstep HADD
                simp only at hstep
                have hres : res = .error (k + 1, 4) := by rw [HRS.out, hstep]
                have HR := Lib.hid hres
                clear hstep hres hr
                go_wp2_with fail
                refine HADD.out.mono ?_
                rintro e w5 ⟨h5, rfl⟩
                go_wp2_with fail
                go_ret3
                unfold RetComp
                rw [HR.out]
                exact ⟨(l1.trans (hbl4.mono (by omega))).trans (h5.below (by have := hbl4.size; omega) (fun j hj hn => by
                  cases ho : own j with
                  | none => exact hn ho
                  | some t => have := HB4.out.1 j t ho; omega)), rfl⟩
              | some b' =>
                rw [hr] at hstep HADD
                simp only at hstep
                have HST := Lib.hid hstep
                have HSB := Lib.hid (addL_small HSM.out hr)
                clear hstep hr
                go_wp2_with fail
                refine HADD.out.mono ?_
                rintro e w5 ⟨h5, rfl, own', ps', hb5, hf5⟩
                have hc5 : w5.cell? ⟨w1.heap.size + 1, 0, none⟩ = some (ptr w1.heap.size) := (World.cell?_of_block (a := ⟨w1.heap.size + 1, 0, none⟩) (h5.block _ hlt4 (fun hn => hn HP.out))).trans hc4
                have hbl5 : Below w1.heap.size w1 w5 := hbl4.trans (h5.below hbl4.size (fun j hj hn => by
                  cases ho : own j with
                  | none => exact hn ho
                  | some t => have := HB4.out.1 j t ho; omega))
                have HB5 := Lib.hid hb5
                have HF5 := Lib.hid (hf5 _ hlt4 HP.out)
                have hlt5 : w1.heap.size + 1 < w5.heap.size := Nat.lt_of_lt_of_le hlt4 h5.size
                clear hb5 hf5 h5
                go_wp2_with fail
                go_roundw
                case rel => exact ⟨k + 1, own', b', ps', by go_num, by omega, HB5.out, HF5.out, HST.out.symm, HSB.out, hbl5, hc5, hlt5⟩
                case measure => simp [intOf]; omega
        · have hkk : k = N := by omega
          have hrok : rr = .ok b := by rw [← HEV.out, List.drop_of_length_le (by rw [HLN.out]; omega)]; rfl
          have hbl0 : Below w.heap.size w wr := l1.trans (hbl.mono (by omega))
          obtain ⟨ba, bc, hblk⟩ := HBA.out.blocks
          by_cases hop : b.open_ = []
          · obtain ⟨vt, pst, hvt, hrow, hsts⟩ := HBA.out.finish hop
            have hblk2 : wr.cell? ⟨w1.heap.size, 7, none⟩ = some (.slice ba 0 bc) := by rw [hblk, hop]; rfl
            clear hblk
            have HMG := Lib.hid (mach_guard hcB hvt hrow hsts (HA.out.below hbl0))
            have hmm := hmakemap
            have hmf := hmakef
            cases hr : runL b.top begun with
            | error ke =>
              obtain ⟨kc, kl⟩ := ke
              rw [hr] at HMG
              have hres : res = .error (kl, kc) := by rw [HRS.out, hrok]; simp only; rw [if_neg (by simp [hop]), hr]
              have hcode := runL_err _ _ _ _ hr
              have hne : (!(kc == 0)) = true := by rcases hcode with rfl | rfl | rfl <;> rfl
              have hne0 : (kc == 0) = false := by rcases hcode with rfl | rfl | rfl <;> rfl
              have hne1 : ¬ kc = 0 := by rcases hcode with rfl | rfl | rfl <;> decide
              have HR := Lib.hid hres
              clear hres hrok hr hop hsts hrow hcode
              go_wp2_with fail
              refine HMG.out.mono ?_
              rintro e w5 ⟨h1, h2, rfl, h3⟩
              have h2' : w5.cell? ⟨wr.heap.size + 1 + 1, 0, none⟩ = some (ptr (wr.heap.size + 1)) := h2
              clear h2
              go_wp2_with fail
              go_quiet (fail)
              go_wp2_with fail
              go_ret3
              unfold RetComp
              rw [HR.out]
              have hb5 : Below w.heap.size w w5 := hbl0.trans (h1.mono hbl0.size)
              exact ⟨hb5.trans ((drewN_below w5 _).mono hb5.size), rfl⟩
            | ok s2 =>
              rw [hr] at HMG
              have hres : res = .ok s2.acts := by rw [HRS.out, hrok]; simp only; rw [if_neg (by simp [hop]), hr]
              have HR := Lib.hid hres
              clear hres hrok hr hop hsts hrow
              go_wp2_with fail
              refine HMG.out.mono ?_
              rintro e w5 ⟨h1, h2, rfl, va, h3, h4, h5⟩
              have h2' : w5.cell? ⟨wr.heap.size + 1 + 1, 0, none⟩ = some (ptr (wr.heap.size + 1)) := h2
              have H4 := Lib.hid h4
              clear h2 h4
              go_wp2_with fail
              go_ret3
              unfold RetComp
              rw [HR.out]
              have hb5 : Below w.heap.size w w5 := hbl0.trans (h1.mono hbl0.size)
              exact ⟨hb5, h5, _, rfl, H4.out.base hbl0.size⟩
          · have hd := List.length_pos_iff.2 hop
            have hres : res = .error (N + 1, 4) := by rw [HRS.out, hrok]; simp only; rw [if_pos hop, HLN.out]
            have HR := Lib.hid hres
            clear hres hrok hop
            go_wp2_with fail
            go_ret3
            unfold RetComp
            rw [HR.out]
            exact ⟨hbl0, rfl⟩
end Go.Proofs.YtddnmocoaahlfaaGreatDoor
