/-
  The contracts of actOf and makeAct. Condition: the table of the kinds of acts is laid as the program lays it.
-/
import Derived.Test.YtddnmocoaahlfaaGreatDoorStm
import Derived.Shelf.SlicesQ.IndexFunc
import Derived.Shelf.SlicesE.IndexFunc
set_option linter.unusedVariables false
set_option linter.unusedSimpArgs false

namespace Go.Proofs.YtddnmocoaahlfaaGreatDoor
open Go.RowKit Go.Shelf
def ren49 : Go.Shelf.Ren := ⟨fun | 6 => 49 | n => n, fun | 22 => 94 | 23 => 84 | 25 => 95 | n => n, fun | n => n⟩
theorem lays49 : Go.Proofs.SlLaysH0.n6 Tryz.prog ren49 := {
  mixed := by kernel_rfl
  f6 := ⟨Tryz.f49.name, by decide, Tryz.func49.trans (congrArg some (by kernel_rfl))⟩
  t0 := by kernel_rfl
  a0 := fun w => by kernel_rfl
  z0 := fun w => by kernel_rfl
  v0 := fun w => by kernel_rfl
  t3 := Tryz.underlying3
  a3 := fun w => by kernel_rfl
  z3 := fun w => by kernel_rfl
  v3 := fun w => by kernel_rfl
  t4 := Tryz.underlying4
  a4 := fun w => by kernel_rfl
  z4 := fun w => by kernel_rfl
  v4 := fun w => by kernel_rfl
  t22 := by kernel_rfl
  a22 := fun w => by kernel_rfl
  z22 := fun w => by kernel_rfl
  v22 := fun w => by kernel_rfl
  t25 := by kernel_rfl
  a25 := fun w => by kernel_rfl
  z25 := fun w => by kernel_rfl
  v25 := fun w => by kernel_rfl }
theorem enters78 (args : Array Value) (w : World) : (callFunc 78 args).run Tryz.prog w = .ok (.enter 78 args) w := enters_of Tryz.func78 (by kernel_rfl) rfl args w
/-- The cells of the form of a kind. -/
def formV (f : List UInt8 × Nat) : List Value := [.string ⟨f.1.toArray⟩, .int .i64 f.2, .bool false]
/-- The table of the kinds of acts lies as the program lays it. -/
def Acts (w : World) : Prop := 0 < w.heap.size ∧ ∀ j, j < 17 → ∀ i v, (formV actWords[j]!)[i]? = some v → w.cell? ⟨0, 0 + j * 3 + i, none⟩ = some v
theorem Acts.below {w w' : World} (h : Acts w) (b : Below w.heap.size w w') : Acts w' := ⟨Nat.lt_of_lt_of_le h.1 b.size, fun j hj i v hv => cell_below (h.2 j hj i v hv) b⟩
theorem Acts.stays {M : Nat → Prop} {w w' : World} (h : Acts w) (b : Stays M w w') (hM : ¬ M 0) : Acts w' := ⟨Nat.lt_of_lt_of_le h.1 b.size, fun j hj i v hv => (World.cell?_of_block (a := ⟨0, 0 + j * 3 + i, none⟩) (b.block 0 h.1 hM)).trans (h.2 j hj i v hv)⟩
theorem idx_find {α : Type} [Inhabited α] (p : α → Bool) : ∀ (l : List α) (i : Nat), Lib.idxByFrom (fun _ y => p y) default l i = match l.findIdx? p with | none => -1 | some k => ((i + k : Nat) : Int)
  | [], i => rfl
  | y :: r, i => by
    unfold Lib.idxByFrom
    rw [List.findIdx?_cons]
    cases hp : p y with
    | true => simp
    | false =>
      simp only [Bool.false_eq_true, if_false]
      rw [idx_find p r (i + 1)]
      cases r.findIdx? p with
      | none => rfl
      | some k => simp only [Option.map_some]; congr 1; omega
theorem actOf_le (t : List UInt8) : actOfL t ≤ 17 := by
  unfold actOfL
  cases h : actWords.findIdx? (fun x => x.1 == t) with
  | none => simp
  | some k =>
    have := (List.findIdx?_eq_some_iff_getElem.1 h).1
    have h17 : actWords.length = 17 := rfl
    simp
    omega
theorem act_find (t : List UInt8) : Lib.idxBy (fun _ (y : List UInt8 × Nat) => y.1 == t) (actWords.take 17) default + 1 = (actOfL t : Int) := by
  unfold Lib.idxBy
  rw [idx_find (fun y : List UInt8 × Nat => y.1 == t) (actWords.take 17) 0]
  have : actWords.take 17 = actWords := rfl
  rw [this]
  unfold actOfL
  cases actWords.findIdx? (fun x => x.1 == t) with
  | none => rfl
  | some k => simp
set_option maxRecDepth 100000 in
theorem isForm_any {W : World} {S : Nat} {s : ByteArray} (hS : W.cell? ⟨S, 0, none⟩ = some (.string s)) (f : List UInt8 × Nat) : Calls Tryz.prog 78 #[.agg (formV f).toArray, .pointer (some ⟨S, 0, none⟩)] W (fun e w' => e = .returned (.bool (f.1 == txt s)) ∧ Below W.heap.size W w') := by
  obtain ⟨f1, f2⟩ := f
  unfold formV
  have hlt := World.block_lt_of_cell? W _ hS
  have hS1 := cell_below hS ((Below.refl _ W).alloc (Nat.le_refl _) (.cells #[.string ⟨f1.toArray⟩, .int .i64 f2, .bool false] 84))
  go_enter Tryz.func78, Tryz.ntmps78
  go_wp2_with fail
  go_ret
  exact ⟨by rw [ByteArray.toList_eq]; rfl, (Below.refl _ W).alloc (Nat.le_refl _) _⟩
set_option maxRecDepth 100000 in
theorem actOf_any {w : World} (ha : Acts w) (s : ByteArray) : Calls Tryz.prog 44 #[.string s] w (RetV w (.int .i64 (actOfL (txt s)))) := by
  have hmf := hmakef
  obtain ⟨w1, hw1⟩ : ∃ w1, w1 = w.alloc (.cells #[.string s] 9) := ⟨_, rfl⟩
  have b1 : Blk w1 w.heap.size #[.string s] 9 := by rw [hw1]; exact Blk.new w _ _
  have l1 : Below w.heap.size w w1 := by rw [hw1]; exact (Below.refl _ _).alloc (Nat.le_refl _) _
  have z1 : w1.heap.size = w.heap.size + 1 := by rw [hw1]; simp
  have ha1 := ha.below l1
  have H := AnyQ.slices_IndexFunc lays49 3 (fun w => by kernel_rfl) (fun w => by kernel_rfl) formV (fun x => rfl) (fun y => y.1 == txt s) 78 #[.pointer (some ⟨w.heap.size, 0, none⟩)] enters78 0 0 17 17 actWords w1
    (fun W x hW => (isForm_any (cell_below b1.one hW) x).mono fun e w' ⟨h1, h2⟩ => ⟨h1, hW.trans (h2.mono hW.size)⟩) (by decide) (by decide) ha1.1 ha1.2
  have HH := Lib.hid H
  have HW := Lib.hid hw1
  have hb : ((-1 : Int) ≤ Lib.idxBy (fun _ (y : List UInt8 × Nat) => y.1 == txt s) (actWords.take 17) default) ∧ Lib.idxBy (fun _ (y : List UInt8 × Nat) => y.1 == txt s) (actWords.take 17) default ≤ 65536 := by
    have h1 := act_find (txt s)
    have h2 : actOfL (txt s) ≤ 17 := actOf_le _
    have h3 : (0 : Int) ≤ (actOfL (txt s) : Int) := Int.natCast_nonneg _
    omega
  have HB := Lib.hid hb
  have HA := Lib.hid (act_find (txt s))
  generalize Lib.idxBy (fun _ (y : List UInt8 × Nat) => y.1 == txt s) (actWords.take 17) default = ix at *
  have hb0 := HB.out.1
  have hb1 := HB.out.2
  clear H hw1 hb
  go_enter Tryz.func44, Tryz.ntmps44
  go_wp2_with fail
  rw [← HW.out]
  refine HH.out.mono ?_
  rintro e w2 ⟨rfl, b2⟩
  go_wp2_with fail
  go_ret
  refine ⟨?_, l1.trans (b2.mono (by omega))⟩
  rw [← HA.out]
  rfl
end Go.Proofs.YtddnmocoaahlfaaGreatDoor
