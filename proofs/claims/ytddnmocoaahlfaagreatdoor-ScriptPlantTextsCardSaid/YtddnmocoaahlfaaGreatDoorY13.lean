/-
  The contracts of actOf and makeAct. Condition: the table of the kinds of acts is laid as the program lays it.
  The contract of parts: what stands behind a line's first word. Conditions: the table of the kinds of acts is laid; rows of at most 70000 words.
-/
import Derived.Test.YtddnmocoaahlfaaGreatDoorY17
import Derived.Shelf.SlicesQ.IndexFunc
import Derived.Shelf.SlicesE.IndexFunc
set_option linter.unusedVariables false
set_option linter.unusedSimpArgs false

namespace Go.Proofs.YtddnmocoaahlfaaGreatDoor
open Go.RowKit Go.Shelf
def ren49 : Go.Shelf.Ren := ⟨fun | 6 => 49 | n => n, fun | 22 => 94 | 23 => 84 | 25 => 95 | n => n, fun | n => n⟩
theorem lays49 : Go.Proofs.SlLaysH0.n6 Tryz.prog ren49 := {
  mixed := by kernel_rfl
  f6 := ⟨Tryz.f49.name, by decide, Tryz.func49.trans (congrArg some (by kernel_rfl))⟩
  t0 := by kernel_rfl
  a0 := fun w => by kernel_rfl
  z0 := fun w => by kernel_rfl
  v0 := fun w => by kernel_rfl
  t3 := Tryz.underlying3
  a3 := fun w => by kernel_rfl
  z3 := fun w => by kernel_rfl
  v3 := fun w => by kernel_rfl
  t4 := Tryz.underlying4
  a4 := fun w => by kernel_rfl
  z4 := fun w => by kernel_rfl
  v4 := fun w => by kernel_rfl
  t22 := by kernel_rfl
  a22 := fun w => by kernel_rfl
  z22 := fun w => by kernel_rfl
  v22 := fun w => by kernel_rfl
  t25 := by kernel_rfl
  a25 := fun w => by kernel_rfl
  z25 := fun w => by kernel_rfl
  v25 := fun w => by kernel_rfl }
theorem enters78 (args : Array Value) (w : World) : (callFunc 78 args).run Tryz.prog w = .ok (.enter 78 args) w := enters_of Tryz.func78 (by kernel_rfl) rfl args w
/-- The cells of the form of a kind. -/
def formV (f : List UInt8 × Nat) : List Value := [.string ⟨f.1.toArray⟩, .int .i64 f.2, .bool false]
/-- The table of the kinds of acts lies as the program lays it. -/
def Acts (w : World) : Prop := 0 < w.heap.size ∧ ∀ j, j < 17 → ∀ i v, (formV actWords[j]!)[i]? = some v → w.cell? ⟨0, 0 + j * 3 + i, none⟩ = some v
theorem Acts.below {w w' : World} (h : Acts w) (b : Below w.heap.size w w') : Acts w' := ⟨Nat.lt_of_lt_of_le h.1 b.size, fun j hj i v hv => cell_below (h.2 j hj i v hv) b⟩
theorem Acts.stays {M : Nat → Prop} {w w' : World} (h : Acts w) (b : Stays M w w') (hM : ¬ M 0) : Acts w' := ⟨Nat.lt_of_lt_of_le h.1 b.size, fun j hj i v hv => (World.cell?_of_block (a := ⟨0, 0 + j * 3 + i, none⟩) (b.block 0 h.1 hM)).trans (h.2 j hj i v hv)⟩
theorem idx_find {α : Type} [Inhabited α] (p : α → Bool) : ∀ (l : List α) (i : Nat), Lib.idxByFrom (fun _ y => p y) default l i = match l.findIdx? p with | none => -1 | some k => ((i + k : Nat) : Int)
  | [], i => rfl
  | y :: r, i => by
    unfold Lib.idxByFrom
    rw [List.findIdx?_cons]
    cases hp : p y with
    | true => simp
    | false =>
      simp only [Bool.false_eq_true, if_false]
      rw [idx_find p r (i + 1)]
      cases r.findIdx? p with
      | none => rfl
      | some k => simp only [Option.map_some]; congr 1; omega
theorem actOf_le (t : List UInt8) : actOfL t ≤ 17 := by
  unfold actOfL
  cases h : actWords.findIdx? (fun x => x.1 == t) with
  | none => simp
  | some k =>
    have := (List.findIdx?_eq_some_iff_getElem.1 h).1
    have h17 : actWords.length = 17 := rfl
    simp
    omega
theorem act_find (t : List UInt8) : Lib.idxBy (fun _ (y : List UInt8 × Nat) => y.1 == t) (actWords.take 17) default + 1 = (actOfL t : Int) := by
  unfold Lib.idxBy
  rw [idx_find (fun y : List UInt8 × Nat => y.1 == t) (actWords.take 17) 0]
  have : actWords.take 17 = actWords := rfl
  rw [this]
  unfold actOfL
  cases actWords.findIdx? (fun x => x.1 == t) with
  | none => rfl
  | some k => simp
set_option maxRecDepth 100000 in
theorem isForm_any {W : World} {S : Nat} {s : ByteArray} (hS : W.cell? ⟨S, 0, none⟩ = some (.string s)) (f : List UInt8 × Nat) : Calls Tryz.prog 78 #[.agg (formV f).toArray, .pointer (some ⟨S, 0, none⟩)] W (fun e w' => e = .returned (.bool (f.1 == txt s)) ∧ Below W.heap.size W w') := by
  obtain ⟨f1, f2⟩ := f
  unfold formV
  have hlt := World.block_lt_of_cell? W _ hS
  have hS1 := cell_below hS ((Below.refl _ W).alloc (Nat.le_refl _) (.cells #[.string ⟨f1.toArray⟩, .int .i64 f2, .bool false] 84))
  go_enter Tryz.func78, Tryz.ntmps78
  go_wp2_with fail
  go_ret
  exact ⟨by rw [ByteArray.toList_eq]; rfl, (Below.refl _ W).alloc (Nat.le_refl _) _⟩
set_option maxRecDepth 100000 in
theorem actOf_any {w : World} (ha : Acts w) (s : ByteArray) : Calls Tryz.prog 44 #[.string s] w (RetV w (.int .i64 (actOfL (txt s)))) := by
  have hmf := hmakef
  obtain ⟨w1, hw1⟩ : ∃ w1, w1 = w.alloc (.cells #[.string s] 9) := ⟨_, rfl⟩
  have b1 : Blk w1 w.heap.size #[.string s] 9 := by rw [hw1]; exact Blk.new w _ _
  have l1 : Below w.heap.size w w1 := by rw [hw1]; exact (Below.refl _ _).alloc (Nat.le_refl _) _
  have z1 : w1.heap.size = w.heap.size + 1 := by rw [hw1]; simp
  have ha1 := ha.below l1
  have H := AnyQ.slices_IndexFunc lays49 3 (fun w => by kernel_rfl) (fun w => by kernel_rfl) formV (fun x => rfl) (fun y => y.1 == txt s) 78 #[.pointer (some ⟨w.heap.size, 0, none⟩)] enters78 0 0 17 17 actWords w1
    (fun W x hW => (isForm_any (cell_below b1.one hW) x).mono fun e w' ⟨h1, h2⟩ => ⟨h1, hW.trans (h2.mono hW.size)⟩) (by decide) (by decide) ha1.1 ha1.2
  have HH := Lib.hid H
  have HW := Lib.hid hw1
  have hb : ((-1 : Int) ≤ Lib.idxBy (fun _ (y : List UInt8 × Nat) => y.1 == txt s) (actWords.take 17) default) ∧ Lib.idxBy (fun _ (y : List UInt8 × Nat) => y.1 == txt s) (actWords.take 17) default ≤ 65536 := by
    have h1 := act_find (txt s)
    have h2 : actOfL (txt s) ≤ 17 := actOf_le _
    have h3 : (0 : Int) ≤ (actOfL (txt s) : Int) := Int.natCast_nonneg _
    omega
  have HB := Lib.hid hb
  have HA := Lib.hid (act_find (txt s))
  generalize Lib.idxBy (fun _ (y : List UInt8 × Nat) => y.1 == txt s) (actWords.take 17) default = ix at *
  have hb0 := HB.out.1
  have hb1 := HB.out.2
  clear H hw1 hb
  go_enter Tryz.func44, Tryz.ntmps44
  go_wp2_with fail
  rw [← HW.out]
  refine HH.out.mono ?_
  rintro e w2 ⟨rfl, b2⟩
  go_wp2_with fail
  go_ret
  refine ⟨?_, l1.trans (b2.mono (by omega))⟩
  rw [← HA.out]
  rfl
end Go.Proofs.YtddnmocoaahlfaaGreatDoor
namespace Go.Proofs.YtddnmocoaahlfaaGreatDoor
open Go.RowKit Go.Shelf
theorem RetS.next {w w1 w' : World} {p : Nat} {line : Int} {k : ByteArray} {vb vo : Value} {ho : Bool} {r : Option (List UInt8 × List Ex)} {e : Ending} (b : Below w.heap.size w w1) (h : RetS w1 p line k vb vo ho r e w') : RetS w p line k vb vo ho r e w' := by
  unfold RetS at *
  refine ⟨(Stays.of b).trans h.1, ?_⟩
  cases r with
  | none => exact h.2
  | some x =>
    obtain ⟨n, xs⟩ := x
    obtain ⟨h1, nb, va, h2, h3, h4, h5⟩ := h.2
    exact ⟨h1, nb, va, h2, h3, h4, h5.wider (fun j hj => ⟨Nat.le_trans b.size hj.1, hj.2⟩) (fun j hj => hj.2)⟩
theorem RetS.bool {w w' : World} {p : Nat} {line : Int} {k : ByteArray} {vb vo : Value} {ho : Bool} {r : Option (List UInt8 × List Ex)} {e : Ending} (h : RetS w p line k vb vo ho r e w') : ∃ b, e = .returned (.bool b) := by
  unfold RetS at h
  cases r with
  | none => exact ⟨_, h.2⟩
  | some x => exact ⟨_, h.2.1⟩
theorem acts_num {w : World} (h : Acts w) {j : Nat} (hj : j < 17) : w.cell? ⟨0, j * 3 + 1, none⟩ = some (.int .i64 (actWords[j]!).2) := by have := h.2 j hj 1 _ rfl; rwa [Nat.zero_add] at this
theorem acts_le : ∀ j, j < 17 → (actWords[j]!).2 ≤ 5 := by decide
theorem acts_get {j : Nat} (hj : j < 17) : actWords.getD j ([], 0) = actWords[j]! := by
  have h17 : actWords.length = 17 := rfl
  rw [List.getD_eq_getElem?_getD, List.getElem?_eq_getElem (by omega), getElem!_pos actWords j (by omega)]
  rfl
set_option maxRecDepth 100000 in
set_option maxHeartbeats 4000000 in
theorem parts_any {w : World} {p : Nat} {line : Int} {k n : ByteArray} {va vb vo v : Value} {ho : Bool} {ss : List ByteArray} {l : List (List UInt8)} (hb : SCells w p line k n va vb vo ho) (hn : txt n = []) (hr : SRow w v ss) (hl : Words ss l) (he : ErrR w) (ha : Acts w) (h6 : p ≠ 6) :
    Calls Tryz.prog 100 #[ptr p, v] w (RetS w p line k vb vo ho (partsL (txt k) l)) := by
  have q1 : w.cell? ⟨p, 1, none⟩ = some (.string k) := (Blk.cell hb 1).trans rfl
  by_cases k1 : txt k = sLet
  · have e : partsL (txt k) l = namedL l 1 := by unfold partsL; rw [if_pos k1]
    rw [e]
    have e1 : (k.toList == [108, 101, 116]) = true := by rw [lit_str']; exact decide_eq_true k1
    have HN := Lib.hid (named_any hb hr hl he h6 1 (by omega) (by omega))
    clear hb hn hr hl he ha e k1
    go_enter Tryz.func100, Tryz.ntmps100
    go_wp2_with fail
    refine HN.out.mono ?_
    rintro e w' h
    obtain ⟨bb, rfl⟩ := h.bool
    go_wp2_with fail
    go_ret
    exact h
  · have e1 : (k.toList == [108, 101, 116]) = false := by rw [lit_str']; exact decide_eq_false k1
    by_cases k2 : txt k = sFor
    · have e : partsL (txt k) l = namedL l 2 := by unfold partsL; rw [if_neg k1, if_pos k2]
      rw [e]
      have e2 : (k.toList == [102, 111, 114]) = true := by rw [lit_str']; exact decide_eq_true k2
      have HN := Lib.hid (named_any hb hr hl he h6 2 (by omega) (by omega))
      clear hb hn hr hl he ha e k1 k2
      go_enter Tryz.func100, Tryz.ntmps100
      go_wp2_with fail
      refine HN.out.mono ?_
      rintro e w' h
      obtain ⟨bb, rfl⟩ := h.bool
      go_wp2_with fail
      go_ret
      exact h
    · have e2 : (k.toList == [102, 111, 114]) = false := by rw [lit_str']; exact decide_eq_false k2
      by_cases k3 : txt k = sIf
      · have e : partsL (txt k) l = simpleL l 1 1 := by unfold partsL; rw [if_neg k1, if_neg k2, if_pos k3]
        rw [e]
        have e3 : (k.toList == [105, 102]) = true := by rw [lit_str']; exact decide_eq_true k3
        have HN := Lib.hid (simple_any hb hn hr hl he 1 1 (by omega) (by omega))
        clear hb hn hr hl he ha e k1 k2 k3
        go_enter Tryz.func100, Tryz.ntmps100
        go_wp2_with fail
        refine HN.out.mono ?_
        rintro e w' h
        obtain ⟨bb, rfl⟩ := h.bool
        go_wp2_with fail
        go_ret
        exact h
      · have e3 : (k.toList == [105, 102]) = false := by rw [lit_str']; exact decide_eq_false k3
        obtain ⟨res, hres⟩ : ∃ res, res = partsL (txt k) l := ⟨_, rfl⟩
        rw [← hres]
        have hres2 : res = if actOfL (txt k) = 0 then none else if actOfL (txt k) = 17 then simpleL l 0 16 else simpleL l (actWords.getD (actOfL (txt k) - 1) ([], 0)).2 (actWords.getD (actOfL (txt k) - 1) ([], 0)).2 := by
          rw [hres]; unfold partsL; rw [if_neg k1, if_neg k2, if_neg k3]
        have HA := Lib.hid (actOf_any ha k)
        have hle := actOf_le (txt k)
        have key : ∀ (lo hi : Nat), lo ≤ 16 → hi ≤ 16 → ∀ w1, Below w.heap.size w w1 → Calls Tryz.prog 129 #[ptr p, v, .int .i64 lo, .int .i64 hi] w1 (RetS w p line k vb vo ho (simpleL l lo hi)) := fun lo hi hlo hhi w1 b => (simple_any (Blk.below hb b) hn (hr.below b) hl (he.below b) lo hi hlo hhi).mono fun e w' h => h.next b
        have KEY := Lib.hid key
        have HQ := Lib.hid ha
        generalize actOfL (txt k) = kk at *
        have HRS := Lib.hid hres2
        clear key hb hn hr hl he ha hres hres2 k1 k2 k3
        by_cases z0 : kk = 0
        · have hr : res = none := by rw [HRS.out, if_pos z0]
          have HR := Lib.hid hr
          clear hr
          subst z0
          go_enter Tryz.func100, Tryz.ntmps100
          go_wp2_with fail
          refine HA.out.mono ?_
          rintro e w1 ⟨rfl, b1⟩
          go_wp2_with fail
          go_ret
          unfold RetS
          rw [HR.out]
          exact ⟨.of b1, rfl⟩
        · have d0 : ((kk : Int) == 0) = false := by simp; omega
          by_cases z17 : kk = 17
          · have hr : res = simpleL l 0 16 := by rw [HRS.out, if_neg z0, if_pos z17]
            have HR := Lib.hid hr
            clear hr z0
            subst z17
            go_enter Tryz.func100, Tryz.ntmps100
            go_wp2_with fail
            refine HA.out.mono ?_
            rintro e w1 ⟨rfl, b1⟩
            go_wp2_with fail
            refine (KEY.out 0 16 (by omega) (by omega) w1 b1).mono ?_
            rintro e w' h
            rw [← HR.out] at h
            obtain ⟨bb, rfl⟩ := h.bool
            go_wp2_with fail
            go_ret
            exact h
          · have d1 : ((kk : Int) == 17) = false := by simp; omega
            obtain ⟨j, rfl⟩ : ∃ j, kk = j + 1 := ⟨kk - 1, by omega⟩
            have hj : j < 17 := by omega
            have hr : res = simpleL l (actWords[j]!).2 (actWords[j]!).2 := by rw [HRS.out, if_neg z0, if_neg z17, Nat.add_sub_cancel, acts_get hj]
            have HR := Lib.hid hr
            have h5 := acts_le j hj
            have hc := acts_num HQ.out hj
            have hc' : ∀ w1, Below w.heap.size w w1 → w1.cell? ⟨0, j * 3 + 1, none⟩ = some (.int .i64 (actWords[j]!).2) := fun w1 b => cell_below hc b
            have HC := Lib.hid hc'
            generalize (actWords[j]!).2 = nn at *
            clear hr z0 hc hc' z17
            go_enter Tryz.func100, Tryz.ntmps100
            go_wp2_with fail
            refine HA.out.mono ?_
            rintro e w1 ⟨rfl, b1⟩
            have c1 := HC.out w1 b1
            go_wp2_with fail
            refine (KEY.out nn nn (by omega) (by omega) w1 b1).mono ?_
            rintro e w' h
            rw [← HR.out] at h
            obtain ⟨bb, rfl⟩ := h.bool
            go_wp2_with fail
            go_ret
            exact h
end Go.Proofs.YtddnmocoaahlfaaGreatDoor
