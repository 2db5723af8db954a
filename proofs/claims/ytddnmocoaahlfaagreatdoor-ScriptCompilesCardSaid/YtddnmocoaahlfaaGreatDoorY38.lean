/-
  The contracts of actOf and makeAct.
  The contract of parts: what stands behind a line's first word.
  The contract of makeAct. Conditions: the table of the kinds of acts is laid as the program lays it; the table of the kinds of acts is laid; rows of at most 70000 words; rows of at most 16 numbers; of at most five where the kind is not the last one.
-/
import Derived.Test.YtddnmocoaahlfaaGreatDoorY30
import Derived.Shelf.SlicesQ.IndexFunc
import Derived.Shelf.SlicesE.IndexFunc
import Derived.Test.YtddnmocoaahlfaaGreatDoorMach
import Derived.Laws.CopyOwn
set_option linter.unusedVariables false
set_option linter.unusedSimpArgs false
set_option maxRecDepth 100000
set_option maxHeartbeats 4000000
namespace Go.Proofs.YtddnmocoaahlfaaGreatDoor
open Go.RowKit Go.Shelf
def ren49 : Go.Shelf.Ren := ⟨fun | 6 => 49 | n => n, fun | 22 => 94 | 23 => 84 | 25 => 95 | n => n, fun | n => n⟩
theorem lays49 : Go.Proofs.SlLaysH0.n6 Tryz.prog ren49 := {
  mixed := by kernel_rfl
  f6 := ⟨Tryz.f49.name, by decide, Tryz.func49.trans (congrArg some (by kernel_rfl))⟩
  t0 := by kernel_rfl
  a0 := fun w => by kernel_rfl
  z0 := fun w => by kernel_rfl
  v0 := fun w => by kernel_rfl
  t3 := Tryz.underlying3
  a3 := fun w => by kernel_rfl
  z3 := fun w => by kernel_rfl
  v3 := fun w => by kernel_rfl
  t4 := Tryz.underlying4
  a4 := fun w => by kernel_rfl
  z4 := fun w => by kernel_rfl
  v4 := fun w => by kernel_rfl
  t22 := by kernel_rfl
  a22 := fun w => by kernel_rfl
  z22 := fun w => by kernel_rfl
  v22 := fun w => by kernel_rfl
  t25 := by kernel_rfl
  a25 := fun w => by kernel_rfl
  z25 := fun w => by kernel_rfl
  v25 := fun w => by kernel_rfl }
theorem enters78 (args : Array Value) (w : World) : (callFunc 78 args).run Tryz.prog w = .ok (.enter 78 args) w := enters_of Tryz.func78 (by kernel_rfl) rfl args w
def formV (f : List UInt8 × Nat) : List Value := [.string ⟨f.1.toArray⟩, .int .i64 f.2, .bool false]
def Acts (w : World) : Prop := 0 < w.heap.size ∧ ∀ j, j < 17 → ∀ i v, (formV actWords[j]!)[i]? = some v → w.cell? ⟨0, 0 + j * 3 + i, none⟩ = some v
theorem Acts.below {w w' : World} (h : Acts w) (b : Below w.heap.size w w') : Acts w' := ⟨Nat.lt_of_lt_of_le h.1 b.size, fun j hj i v hv => cell_below (h.2 j hj i v hv) b⟩
theorem Acts.stays {M : Nat → Prop} {w w' : World} (h : Acts w) (b : Stays M w w') (hM : ¬ M 0) : Acts w' := ⟨Nat.lt_of_lt_of_le h.1 b.size, fun j hj i v hv => (World.cell?_of_block (a := ⟨0, 0 + j * 3 + i, none⟩) (b.block 0 h.1 hM)).trans (h.2 j hj i v hv)⟩
theorem idx_find {α : Type} [Inhabited α] (p : α → Bool) : ∀ (l : List α) (i : Nat), Lib.idxByFrom (fun _ y => p y) default l i = match l.findIdx? p with | none => -1 | some k => ((i + k : Nat) : Int)
  | [], i => rfl
  | y :: r, i => by
    unfold Lib.idxByFrom
    rw [List.findIdx?_cons]
    cases hp : p y with
    | true => simp
    | false =>
      simp only [Bool.false_eq_true, if_false]
      rw [idx_find p r (i + 1)]
      cases r.findIdx? p with
      | none => rfl
      | some k => simp only [Option.map_some]; congr 1; omega
theorem actOf_le (t : List UInt8) : actOfL t ≤ 17 := by
  unfold actOfL
  cases h : actWords.findIdx? (fun x => x.1 == t) with
  | none => simp
  | some k =>
    have := (List.findIdx?_eq_some_iff_getElem.1 h).1
    have h17 : actWords.length = 17 := rfl
    simp
    omega
theorem act_find (t : List UInt8) : Lib.idxBy (fun _ (y : List UInt8 × Nat) => y.1 == t) (actWords.take 17) default + 1 = (actOfL t : Int) := by
  unfold Lib.idxBy
  rw [idx_find (fun y : List UInt8 × Nat => y.1 == t) (actWords.take 17) 0]
  have : actWords.take 17 = actWords := rfl
  rw [this]
  unfold actOfL
  cases actWords.findIdx? (fun x => x.1 == t) with
  | none => rfl
  | some k => simp
theorem isForm_any {W : World} {S : Nat} {s : ByteArray} (hS : W.cell? ⟨S, 0, none⟩ = some (.string s)) (f : List UInt8 × Nat) : Calls Tryz.prog 78 #[.agg (formV f).toArray, .pointer (some ⟨S, 0, none⟩)] W (fun e w' => e = .returned (.bool (f.1 == txt s)) ∧ Below W.heap.size W w') := by
  obtain ⟨f1, f2⟩ := f
  unfold formV
  have hlt := World.block_lt_of_cell? W _ hS
  have hS1 := cell_below hS ((Below.refl _ W).alloc (Nat.le_refl _) (.cells #[.string ⟨f1.toArray⟩, .int .i64 f2, .bool false] 84))
  go_enter Tryz.func78, Tryz.ntmps78
  go_wp2_with fail
  go_ret
  exact ⟨by rw [ByteArray.toList_eq]; rfl, (Below.refl _ W).alloc (Nat.le_refl _) _⟩
theorem actOf_any {w : World} (ha : Acts w) (s : ByteArray) : Calls Tryz.prog 44 #[.string s] w (RetV w (.int .i64 (actOfL (txt s)))) := by
  have hmf := hmakef
  obtain ⟨w1, hw1⟩ : ∃ w1, w1 = w.alloc (.cells #[.string s] 9) := ⟨_, rfl⟩
  have b1 : Blk w1 w.heap.size #[.string s] 9 := by rw [hw1]; exact Blk.new w _ _
  have l1 : Below w.heap.size w w1 := by rw [hw1]; exact (Below.refl _ _).alloc (Nat.le_refl _) _
  have z1 : w1.heap.size = w.heap.size + 1 := by rw [hw1]; simp
  have ha1 := ha.below l1
  have H := AnyQ.slices_IndexFunc lays49 3 (fun w => by kernel_rfl) (fun w => by kernel_rfl) formV (fun x => rfl) (fun y => y.1 == txt s) 78 #[.pointer (some ⟨w.heap.size, 0, none⟩)] enters78 0 0 17 17 actWords w1
    (fun W x hW => (isForm_any (cell_below b1.one hW) x).mono fun e w' ⟨h1, h2⟩ => ⟨h1, hW.trans (h2.mono hW.size)⟩) (by decide) (by decide) ha1.1 ha1.2
  have HH := Lib.hid H
  have HW := Lib.hid hw1
  have hb : ((-1 : Int) ≤ Lib.idxBy (fun _ (y : List UInt8 × Nat) => y.1 == txt s) (actWords.take 17) default) ∧ Lib.idxBy (fun _ (y : List UInt8 × Nat) => y.1 == txt s) (actWords.take 17) default ≤ 65536 := by
    have h1 := act_find (txt s)
    have h2 : actOfL (txt s) ≤ 17 := actOf_le _
    have h3 : (0 : Int) ≤ (actOfL (txt s) : Int) := Int.natCast_nonneg _
    omega
  have HB := Lib.hid hb
  have HA := Lib.hid (act_find (txt s))
  generalize Lib.idxBy (fun _ (y : List UInt8 × Nat) => y.1 == txt s) (actWords.take 17) default = ix at *
  have hb0 := HB.out.1
  have hb1 := HB.out.2
  clear H hw1 hb
  go_enter Tryz.func44, Tryz.ntmps44
  go_wp2_with fail
  rw [← HW.out]
  refine HH.out.mono ?_
  rintro e w2 ⟨rfl, b2⟩
  go_wp2_with fail
  go_ret
  refine ⟨?_, l1.trans (b2.mono (by omega))⟩
  rw [← HA.out]
  rfl
end Go.Proofs.YtddnmocoaahlfaaGreatDoor
namespace Go.Proofs.YtddnmocoaahlfaaGreatDoor
open Go.RowKit Go.Shelf
theorem RetS.next {w w1 w' : World} {p : Nat} {line : Int} {k : ByteArray} {vb vo : Value} {ho : Bool} {r : Option (List UInt8 × List Ex)} {e : Ending} (b : Below w.heap.size w w1) (h : RetS w1 p line k vb vo ho r e w') : RetS w p line k vb vo ho r e w' := by
  unfold RetS at *
  refine ⟨(Stays.of b).trans h.1, ?_⟩
  cases r with
  | none => exact h.2
  | some x =>
    obtain ⟨n, xs⟩ := x
    obtain ⟨h1, nb, va, h2, h3, h4, h5⟩ := h.2
    exact ⟨h1, nb, va, h2, h3, h4, h5.wider (fun j hj => ⟨Nat.le_trans b.size hj.1, hj.2⟩) (fun j hj => hj.2)⟩
theorem RetS.bool {w w' : World} {p : Nat} {line : Int} {k : ByteArray} {vb vo : Value} {ho : Bool} {r : Option (List UInt8 × List Ex)} {e : Ending} (h : RetS w p line k vb vo ho r e w') : ∃ b, e = .returned (.bool b) := by
  unfold RetS at h
  cases r with
  | none => exact ⟨_, h.2⟩
  | some x => exact ⟨_, h.2.1⟩
theorem acts_num {w : World} (h : Acts w) {j : Nat} (hj : j < 17) : w.cell? ⟨0, j * 3 + 1, none⟩ = some (.int .i64 (actWords[j]!).2) := by have := h.2 j hj 1 _ rfl; rwa [Nat.zero_add] at this
theorem acts_le : ∀ j, j < 17 → (actWords[j]!).2 ≤ 5 := by decide
theorem acts_get {j : Nat} (hj : j < 17) : actWords.getD j ([], 0) = actWords[j]! := by
  have h17 : actWords.length = 17 := rfl
  rw [List.getD_eq_getElem?_getD, List.getElem?_eq_getElem (by omega), getElem!_pos actWords j (by omega)]
  rfl
theorem parts_any {w : World} {p : Nat} {line : Int} {k n : ByteArray} {va vb vo v : Value} {ho : Bool} {ss : List ByteArray} {l : List (List UInt8)} (hb : SCells w p line k n va vb vo ho) (hn : txt n = []) (hr : SRow w v ss) (hl : Words ss l) (he : ErrR w) (ha : Acts w) (h6 : p ≠ 6) :
    Calls Tryz.prog 100 #[ptr p, v] w (RetS w p line k vb vo ho (partsL (txt k) l)) := by
  have q1 : w.cell? ⟨p, 1, none⟩ = some (.string k) := (Blk.cell hb 1).trans rfl
  by_cases k1 : txt k = sLet
  · have e : partsL (txt k) l = namedL l 1 := by unfold partsL; rw [if_pos k1]
    rw [e]
    have e1 : (k.toList == [108, 101, 116]) = true := by rw [lit_str']; exact decide_eq_true k1
    have HN := Lib.hid (named_any hb hr hl he h6 1 (by omega) (by omega))
    clear hb hn hr hl he ha e k1
    go_enter Tryz.func100, Tryz.ntmps100
    go_wp2_with fail
    refine HN.out.mono ?_
    rintro e w' h
    obtain ⟨bb, rfl⟩ := h.bool
    go_wp2_with fail
    go_ret
    exact h
  · have e1 : (k.toList == [108, 101, 116]) = false := by rw [lit_str']; exact decide_eq_false k1
    by_cases k2 : txt k = sFor
    · have e : partsL (txt k) l = namedL l 2 := by unfold partsL; rw [if_neg k1, if_pos k2]
      rw [e]
      have e2 : (k.toList == [102, 111, 114]) = true := by rw [lit_str']; exact decide_eq_true k2
      have HN := Lib.hid (named_any hb hr hl he h6 2 (by omega) (by omega))
      clear hb hn hr hl he ha e k1 k2
      go_enter Tryz.func100, Tryz.ntmps100
      go_wp2_with fail
      refine HN.out.mono ?_
      rintro e w' h
      obtain ⟨bb, rfl⟩ := h.bool
      go_wp2_with fail
      go_ret
      exact h
    · have e2 : (k.toList == [102, 111, 114]) = false := by rw [lit_str']; exact decide_eq_false k2
      by_cases k3 : txt k = sIf
      · have e : partsL (txt k) l = simpleL l 1 1 := by unfold partsL; rw [if_neg k1, if_neg k2, if_pos k3]
        rw [e]
        have e3 : (k.toList == [105, 102]) = true := by rw [lit_str']; exact decide_eq_true k3
        have HN := Lib.hid (simple_any hb hn hr hl he 1 1 (by omega) (by omega))
        clear hb hn hr hl he ha e k1 k2 k3
        go_enter Tryz.func100, Tryz.ntmps100
        go_wp2_with fail
        refine HN.out.mono ?_
        rintro e w' h
        obtain ⟨bb, rfl⟩ := h.bool
        go_wp2_with fail
        go_ret
        exact h
      · have e3 : (k.toList == [105, 102]) = false := by rw [lit_str']; exact decide_eq_false k3
        obtain ⟨res, hres⟩ : ∃ res, res = partsL (txt k) l := ⟨_, rfl⟩
        rw [← hres]
        have hres2 : res = if actOfL (txt k) = 0 then none else if actOfL (txt k) = 17 then simpleL l 0 16 else simpleL l (actWords.getD (actOfL (txt k) - 1) ([], 0)).2 (actWords.getD (actOfL (txt k) - 1) ([], 0)).2 := by
          rw [hres]; unfold partsL; rw [if_neg k1, if_neg k2, if_neg k3]
        have HA := Lib.hid (actOf_any ha k)
        have hle := actOf_le (txt k)
        have key : ∀ (lo hi : Nat), lo ≤ 16 → hi ≤ 16 → ∀ w1, Below w.heap.size w w1 → Calls Tryz.prog 129 #[ptr p, v, .int .i64 lo, .int .i64 hi] w1 (RetS w p line k vb vo ho (simpleL l lo hi)) := fun lo hi hlo hhi w1 b => (simple_any (Blk.below hb b) hn (hr.below b) hl (he.below b) lo hi hlo hhi).mono fun e w' h => h.next b
        have KEY := Lib.hid key
        have HQ := Lib.hid ha
        generalize actOfL (txt k) = kk at *
        have HRS := Lib.hid hres2
        clear key hb hn hr hl he ha hres hres2 k1 k2 k3
        by_cases z0 : kk = 0
        · have hr : res = none := by rw [HRS.out, if_pos z0]
          have HR := Lib.hid hr
          clear hr
          subst z0
          go_enter Tryz.func100, Tryz.ntmps100
          go_wp2_with fail
          refine HA.out.mono ?_
          rintro e w1 ⟨rfl, b1⟩
          go_wp2_with fail
          go_ret
          unfold RetS
          rw [HR.out]
          exact ⟨.of b1, rfl⟩
        · have d0 : ((kk : Int) == 0) = false := by simp; omega
          by_cases z17 : kk = 17
          · have hr : res = simpleL l 0 16 := by rw [HRS.out, if_neg z0, if_pos z17]
            have HR := Lib.hid hr
            clear hr z0
            subst z17
            go_enter Tryz.func100, Tryz.ntmps100
            go_wp2_with fail
            refine HA.out.mono ?_
            rintro e w1 ⟨rfl, b1⟩
            go_wp2_with fail
            refine (KEY.out 0 16 (by omega) (by omega) w1 b1).mono ?_
            rintro e w' h
            rw [← HR.out] at h
            obtain ⟨bb, rfl⟩ := h.bool
            go_wp2_with fail
            go_ret
            exact h
          · have d1 : ((kk : Int) == 17) = false := by simp; omega
            obtain ⟨j, rfl⟩ : ∃ j, kk = j + 1 := ⟨kk - 1, by omega⟩
            have hj : j < 17 := by omega
            have hr : res = simpleL l (actWords[j]!).2 (actWords[j]!).2 := by rw [HRS.out, if_neg z0, if_neg z17, Nat.add_sub_cancel, acts_get hj]
            have HR := Lib.hid hr
            have h5 := acts_le j hj
            have hc := acts_num HQ.out hj
            have hc' : ∀ w1, Below w.heap.size w w1 → w1.cell? ⟨0, j * 3 + 1, none⟩ = some (.int .i64 (actWords[j]!).2) := fun w1 b => cell_below hc b
            have HC := Lib.hid hc'
            generalize (actWords[j]!).2 = nn at *
            clear hr z0 hc hc' z17
            go_enter Tryz.func100, Tryz.ntmps100
            go_wp2_with fail
            refine HA.out.mono ?_
            rintro e w1 ⟨rfl, b1⟩
            have c1 := HC.out w1 b1
            go_wp2_with fail
            refine (KEY.out nn nn (by omega) (by omega) w1 b1).mono ?_
            rintro e w' h
            rw [← HR.out] at h
            obtain ⟨bb, rfl⟩ := h.bool
            go_wp2_with fail
            go_ret
            exact h
end Go.Proofs.YtddnmocoaahlfaaGreatDoor
namespace Go.Proofs.YtddnmocoaahlfaaGreatDoor
open Go.RowKit Go.Shelf
def actCells (a : Act5) (kv : Value) : List Value := .int .i64 a.kind :: (a.f.map fun n => .int .i64 n) ++ [kv]
theorem splice5 : ∀ l : List Int, l.length ≤ 5 → splice [.int .i64 0, .int .i64 0, .int .i64 0, .int .i64 0, .int .i64 0] 0 (l.map fun n => Value.int .i64 n) = ((l ++ [0, 0, 0, 0, 0]).take 5).map fun n => Value.int .i64 n
  | [], _ => rfl
  | [_], _ => rfl
  | [_, _], _ => rfl
  | [_, _, _], _ => rfl
  | [_, _, _, _], _ => rfl
  | [_, _, _, _, _], _ => rfl
  | _ :: _ :: _ :: _ :: _ :: _ :: _, h => by simp at h
theorem five {l : List Int} (h : l.length = 5) : ∃ a b c d e, l = [a, b, c, d, e] := by
  match l, h with
  | [a, b, c, d, e], _ => exact ⟨a, b, c, d, e, rfl⟩
def RetA (w : World) (a : Act5) (e : Ending) (w' : World) : Prop := Below w.heap.size w w' ∧ ∃ kv, e = .returned (.agg (actCells a kv).toArray) ∧ IRow w' w.heap.size kv a.keep
theorem irow_form {w : World} {b : Nat} {v : Value} {l : List Int} (h : IRow w b v l) : (v = .slice none 0 0 ∧ l = []) ∨ ∃ L cap, v = .slice (some ⟨L, 0, none⟩) l.length cap ∧ L < w.heap.size ∧ ∀ j u, (l.map fun n => Value.int .i64 n)[j]? = some u → w.cell? ⟨L, 0 + j, none⟩ = some u := by
  rcases h.2 with ⟨h1, h2⟩ | ⟨g, cap, cur, rfl, _, hg, _⟩
  · exact .inl ⟨h1, List.length_eq_zero_iff.1 h2⟩
  · refine .inr ⟨g, cap, rfl, (Array.getElem?_eq_some_iff.1 hg).1, fun j u hj => ?_⟩
    obtain ⟨hlt, hu⟩ := List.getElem?_eq_some_iff.1 hj
    have hlt' := hlt
    rw [List.length_map] at hlt'
    have := row_get h (by omega) j hlt
    rw [Nat.zero_add, this, hu]
theorem makeAct_five {w : World} {b : Nat} {v : Value} {l : List Int} (k : Nat) (h : IRow w b v l) (hk : k < 17) (hl : l.length ≤ 5) : Calls Tryz.prog 46 #[.int .i64 k, v] w (RetA w (makeActL k l)) := by
  obtain ⟨a, f0, c, d, e, hf⟩ := five (l := (l ++ [0, 0, 0, 0, 0]).take 5) (by simp)
  have hm : makeActL k l = ⟨k, [a, f0, c, d, e], []⟩ := by unfold makeActL; rw [if_neg (by omega), hf]
  rw [hm]
  have hs := splice5 l hl
  rw [hf] at hs
  have HS := Lib.hid hs
  have h17 : ((k : Int) == 17) = false := by simp; omega
  have hv : ∃ sp c, v = .slice sp l.length c ∧ (0 < l.length → ∃ L, sp = some ⟨L, 0, none⟩ ∧ L < w.heap.size ∧ ∀ j u, (l.map fun n => Value.int .i64 n)[j]? = some u → w.cell? ⟨L, 0 + j, none⟩ = some u) := by
    rcases irow_form h with ⟨rfl, rfl⟩ | ⟨L, cap, rfl, h1, h2⟩
    · exact ⟨none, 0, rfl, fun h => by simp at h⟩
    · exact ⟨_, cap, rfl, fun _ => ⟨L, rfl, h1, h2⟩⟩
  obtain ⟨sp, cv, rfl, hsp⟩ := hv
  have HV := Lib.hid hsp
  clear hsp hf hm hs
  obtain ⟨w1, hw1⟩ : ∃ w1, w1 = w.alloc (.cells #[.int .i64 0, .int .i64 0, .int .i64 0, .int .i64 0, .int .i64 0, .int .i64 0, .slice none 0 0] 24) := ⟨_, rfl⟩
  have b1 : Blk w1 w.heap.size #[.int .i64 0, .int .i64 0, .int .i64 0, .int .i64 0, .int .i64 0, .int .i64 0, .slice none 0 0] 24 := by rw [hw1]; exact Blk.new w _ _
  have l1 : Below w.heap.size w w1 := by rw [hw1]; exact (Below.refl _ _).alloc (Nat.le_refl _) _
  have z1 : w1.heap.size = w.heap.size + 1 := by rw [hw1]; simp
  obtain ⟨w2, hw2⟩ : ∃ w2, w2 = w1.alloc (.cells #[.int .i64 0, .int .i64 0, .int .i64 0, .int .i64 0, .int .i64 0] 90) := ⟨_, rfl⟩
  have b2 : Blk w2 w1.heap.size #[.int .i64 0, .int .i64 0, .int .i64 0, .int .i64 0, .int .i64 0] 90 := by rw [hw2]; exact Blk.new w1 _ _
  have l2 : Below w.heap.size w w2 := l1.trans (by rw [hw2]; exact (Below.refl _ _).alloc (by omega) _)
  have b12 : Blk w2 w.heap.size #[.int .i64 0, .int .i64 0, .int .i64 0, .int .i64 0, .int .i64 0, .int .i64 0, .slice none 0 0] 24 := by rw [hw2]; exact b1.alloc _
  have l12 : Below (w.heap.size + 1) w1 w2 := by rw [hw2]; exact (Below.refl _ _).alloc (by omega) _
  have hlt := HV.out
  rw [z1] at b2
  have HW1 := Lib.hid hw1
  have HW2 := Lib.hid hw2
  clear hw1 hw2 hlt
  go_enter Tryz.func46, Tryz.ntmps46
  go_wp2_with (with_reducible (refine wpList_copy_splice rfl (.tmp 12) (.tmp 13) 22 22 rfl 3 Tryz.underlying22 ?c1 _ _ _ _ _ _ rfl rfl (w.heap.size + 1) 0 [.int .i64 0, .int .i64 0, .int .i64 0, .int .i64 0, .int .i64 0] 90 ?c2 (l.map fun n => Value.int .i64 n) ?c3 ?c4 ?c5 ?c6 (w.heap.size + 1) w1 ?c7 (Nat.le_refl _) ?c8))
  case c1 => kernel_rfl
  case c2 => rw [← HW1.out, ← HW2.out]; exact b2
  case c3 => rw [List.length_map]; exact (Nat.min_eq_left hl).symm
  case c4 =>
    intro hp
    obtain ⟨L, hsL, hL, hc⟩ := HV.out (by simpa using hp)
    refine ⟨⟨L, 0, none⟩, hsL, fun j u hj => ?_⟩
    rw [← HW1.out, ← HW2.out, Addr.add_lit]
    exact (l2.cell (p := ⟨L, 0 + j, none⟩) hL).trans (hc j _ (by simp [hj]))
  case c5 => simpa using hl
  case c6 => intro u hu; obtain ⟨n, _, rfl⟩ := List.mem_map.1 hu; rfl
  case c7 => rw [← HW1.out, ← HW2.out]; exact l12
  case c8 =>
  intro w3 hid3 hb3
  have hq := hid3.out
  rw [HS.out] at hq
  have q3 : Blk w3 (w.heap.size + 1) #[.int .i64 a, .int .i64 f0, .int .i64 c, .int .i64 d, .int .i64 e] 90 := hq
  have q0 : Blk w3 w.heap.size #[.int .i64 0, .int .i64 0, .int .i64 0, .int .i64 0, .int .i64 0, .int .i64 0, .slice none 0 0] 24 := (hb3.block w.heap.size (by omega)).trans b1
  have l3 : Below w.heap.size w w3 := l1.trans (hb3.mono (by omega))
  have e0 : w3.cell? ⟨w.heap.size + 1, 0, none⟩ = some (.int .i64 a) := (q3.cell 0).trans rfl
  have e1 : w3.cell? ⟨w.heap.size + 1, 1, none⟩ = some (.int .i64 f0) := (q3.cell 1).trans rfl
  have e2 : w3.cell? ⟨w.heap.size + 1, 2, none⟩ = some (.int .i64 c) := (q3.cell 2).trans rfl
  have e3 : w3.cell? ⟨w.heap.size + 1, 3, none⟩ = some (.int .i64 d) := (q3.cell 3).trans rfl
  have e4 : w3.cell? ⟨w.heap.size + 1, 4, none⟩ = some (.int .i64 e) := (q3.cell 4).trans rfl
  have g0 : w3.cell? ⟨w.heap.size, 0, none⟩ = some (.int .i64 0) := (q0.cell 0).trans rfl
  have z0 := q0.frozen 0
  have g1 : w3.cell? ⟨w.heap.size, 1, none⟩ = some (.int .i64 0) := (q0.cell 1).trans rfl
  have z1 := q0.frozen 1
  have g2 : w3.cell? ⟨w.heap.size, 2, none⟩ = some (.int .i64 0) := (q0.cell 2).trans rfl
  have z2 := q0.frozen 2
  have g3 : w3.cell? ⟨w.heap.size, 3, none⟩ = some (.int .i64 0) := (q0.cell 3).trans rfl
  have z3 := q0.frozen 3
  have g4 : w3.cell? ⟨w.heap.size, 4, none⟩ = some (.int .i64 0) := (q0.cell 4).trans rfl
  have z4 := q0.frozen 4
  have g5 : w3.cell? ⟨w.heap.size, 5, none⟩ = some (.int .i64 0) := (q0.cell 5).trans rfl
  have z5 := q0.frozen 5
  have g6 : w3.cell? ⟨w.heap.size, 6, none⟩ = some (.slice none 0 0) := (q0.cell 6).trans rfl
  have z6 := q0.frozen 6
  clear hid3 hq HS HV h
  go_wp2_with fail
  have hB := ((((((q0.set 0 (.int .i64 k)).set 1 (.int .i64 a)).set 2 (.int .i64 f0)).set 3 (.int .i64 c)).set 4 (.int .i64 d)).set 5 (.int .i64 e)).set 6 (.slice none 0 0)
  have hS : Stays (fun j => j = w.heap.size) w3 _ := ((((((Stays.cell (.refl _ w3) 0 (.int .i64 k)).cell 1 (.int .i64 a)).cell 2 (.int .i64 f0)).cell 3 (.int .i64 c)).cell 4 (.int .i64 d)).cell 5 (.int .i64 e)).cell 6 (.slice none 0 0)
  obtain ⟨w4, hw4⟩ : ∃ w4, w4 = (((((((w3.setCell { block := w.heap.size, off := 0 } (Value.int IntKind.i64 ↑k)).setCell { block := w.heap.size, off := 1 } (Value.int IntKind.i64 a)).setCell { block := w.heap.size, off := 2 } (Value.int IntKind.i64 f0)).setCell { block := w.heap.size, off := 3 } (Value.int IntKind.i64 c)).setCell { block := w.heap.size, off := 4 } (Value.int IntKind.i64 d)).setCell { block := w.heap.size, off := 5 } (Value.int IntKind.i64 e)).setCell { block := w.heap.size, off := 6 } (Value.slice none 0 0)) := ⟨_, rfl⟩
  rw [← hw4] at hB hS
  rw [← hw4]
  have hB' : Blk w4 w.heap.size #[.int .i64 k, .int .i64 a, .int .i64 f0, .int .i64 c, .int .i64 d, .int .i64 e, .slice none 0 0] 24 := hB
  clear hw4 hB
  have y0 : w4.cell? ⟨w.heap.size, 0, none⟩ = some (.int .i64 k) := (hB'.cell 0).trans rfl
  have y1 : w4.cell? ⟨w.heap.size, 1, none⟩ = some (.int .i64 a) := (hB'.cell 1).trans rfl
  have y2 : w4.cell? ⟨w.heap.size, 2, none⟩ = some (.int .i64 f0) := (hB'.cell 2).trans rfl
  have y3 : w4.cell? ⟨w.heap.size, 3, none⟩ = some (.int .i64 c) := (hB'.cell 3).trans rfl
  have y4 : w4.cell? ⟨w.heap.size, 4, none⟩ = some (.int .i64 d) := (hB'.cell 4).trans rfl
  have y5 : w4.cell? ⟨w.heap.size, 5, none⟩ = some (.int .i64 e) := (hB'.cell 5).trans rfl
  have y6 : w4.cell? ⟨w.heap.size, 6, none⟩ = some (.slice none 0 0) := (hB'.cell 6).trans rfl
  have hbl : Below w.heap.size w w4 := l3.trans (hS.below l3.size (fun j hj e => by omega))
  refine ⟨rfl, .agg #[.int .i64 k, .int .i64 a, .int .i64 f0, .int .i64 c, .int .i64 d, .int .i64 e, .slice none 0 0], ?_, hbl, .slice none 0 0, rfl, World.ownsRow_nil _ _ _ _⟩
  simp [results, Tryz.results46, go_sem, y0, y1, y2, y3, y4, y5, y6]
theorem clone_any {w : World} {b : Nat} {v : Value} {l : List Int} (h : IRow w b v l) (hl : l.length ≤ 65536) : Calls Tryz.prog 80 #[v] w (fun e w' => ∃ v', e = .returned v' ∧ IRow w' w.heap.size v' l ∧ Below w.heap.size w w') := by
  rcases irow_form h with ⟨rfl, rfl⟩ | ⟨L, cap, rfl, h1, h2⟩
  · exact (Tryz.slices_Clone_nil 0 0 w).mono fun e w' ⟨h1, h2⟩ => ⟨_, h1, World.ownsRow_nil _ _ _ _, h2 ▸ Below.refl _ _⟩
  · obtain ⟨i0, hi, hz0, hz1, hz2⟩ := info_parts info3
    exact (Tryz.slices_Clone i0 (.int .i64 0) 1 8 hi hz0 hz1 hz2 rfl (by decide) (fun w => by kernel_rfl) L 0 l.length cap (l.map fun n => Value.int .i64 n) w (by simp) (by unfold maxLen; omega) (by omega) h2 (by intro u hu; obtain ⟨n, _, rfl⟩ := List.mem_map.1 hu; rfl)).mono fun e w' ⟨v', h1, h2, _, h4⟩ => ⟨v', h1, h2, h4⟩
theorem makeAct_crash {w : World} {b : Nat} {v : Value} {l : List Int} (h : IRow w b v l) (hl : l.length ≤ 65536) : Calls Tryz.prog 46 #[.int .i64 17, v] w (RetA w (makeActL 17 l)) := by
  have hm : makeActL 17 l = ⟨17, [0, 0, 0, 0, 0], l⟩ := rfl
  rw [hm]
  obtain ⟨w1, hw1⟩ : ∃ w1, w1 = w.alloc (.cells #[.int .i64 0, .int .i64 0, .int .i64 0, .int .i64 0, .int .i64 0, .int .i64 0, .slice none 0 0] 24) := ⟨_, rfl⟩
  have b1 : Blk w1 w.heap.size #[.int .i64 0, .int .i64 0, .int .i64 0, .int .i64 0, .int .i64 0, .int .i64 0, .slice none 0 0] 24 := by rw [hw1]; exact Blk.new w _ _
  have l1 : Below w.heap.size w w1 := by rw [hw1]; exact (Below.refl _ _).alloc (Nat.le_refl _) _
  have z1 : w1.heap.size = w.heap.size + 1 := by rw [hw1]; simp
  have hr1 : IRow w1 b v l := row_stays (M := fun _ => False) h (.of l1) (fun _ _ h => h)
  have HC := Lib.hid (clone_any hr1 hl)
  have HW1 := Lib.hid hw1
  clear hw1
  go_enter Tryz.func46, Tryz.ntmps46
  go_wp2_with fail
  rw [← HW1.out]
  refine HC.out.mono ?_
  rintro e w2 ⟨kv, rfl, hrow, b2⟩
  have hkf := irow_form hrow
  have q0 := Blk.below b1 b2
  have l2 : Below w.heap.size w w2 := l1.trans (b2.mono (by omega))
  have hkv : ∃ ka kn kc, kv = .slice ka kn kc := by
    rcases hkf with ⟨rfl, _⟩ | ⟨L, cap, rfl, _⟩
    · exact ⟨_, _, _, rfl⟩
    · exact ⟨_, _, _, rfl⟩
  obtain ⟨ka, kn, kc, rfl⟩ := hkv
  have hne : ∀ j, (Value.slice ka kn kc).ownBlock = some j → w1.heap.size ≤ j := fun j hj => (hrow.lt j hj).1
  have g0 : w2.cell? ⟨w.heap.size, 0, none⟩ = some (.int .i64 0) := (q0.cell 0).trans rfl
  have y0 := q0.frozen 0
  have g1 : w2.cell? ⟨w.heap.size, 1, none⟩ = some (.int .i64 0) := (q0.cell 1).trans rfl
  have yz1 := q0.frozen 1
  have g2 : w2.cell? ⟨w.heap.size, 2, none⟩ = some (.int .i64 0) := (q0.cell 2).trans rfl
  have y2 := q0.frozen 2
  have g3 : w2.cell? ⟨w.heap.size, 3, none⟩ = some (.int .i64 0) := (q0.cell 3).trans rfl
  have y3 := q0.frozen 3
  have g4 : w2.cell? ⟨w.heap.size, 4, none⟩ = some (.int .i64 0) := (q0.cell 4).trans rfl
  have y4 := q0.frozen 4
  have g5 : w2.cell? ⟨w.heap.size, 5, none⟩ = some (.int .i64 0) := (q0.cell 5).trans rfl
  have y5 := q0.frozen 5
  have g6 : w2.cell? ⟨w.heap.size, 6, none⟩ = some (.slice none 0 0) := (q0.cell 6).trans rfl
  have y6 := q0.frozen 6
  clear HC h hr1
  go_wp2_with fail
  have hB := ((((((q0.set 0 (.int .i64 17)).set 1 (.int .i64 0)).set 2 (.int .i64 0)).set 3 (.int .i64 0)).set 4 (.int .i64 0)).set 5 (.int .i64 0)).set 6 (.slice ka kn kc)
  have hS : Stays (fun j => j = w.heap.size) w2 _ := ((((((Stays.cell (.refl _ w2) 0 (.int .i64 17)).cell 1 (.int .i64 0)).cell 2 (.int .i64 0)).cell 3 (.int .i64 0)).cell 4 (.int .i64 0)).cell 5 (.int .i64 0)).cell 6 (.slice ka kn kc)
  obtain ⟨w4, hw4⟩ : ∃ w4, w4 = (((((((w2.setCell { block := w.heap.size, off := 0 } (Value.int IntKind.i64 17)).setCell { block := w.heap.size, off := 1 } (Value.int IntKind.i64 0)).setCell { block := w.heap.size, off := 2 } (Value.int IntKind.i64 0)).setCell { block := w.heap.size, off := 3 } (Value.int IntKind.i64 0)).setCell { block := w.heap.size, off := 4 } (Value.int IntKind.i64 0)).setCell { block := w.heap.size, off := 5 } (Value.int IntKind.i64 0)).setCell { block := w.heap.size, off := 6 } (.slice ka kn kc)) := ⟨_, rfl⟩
  rw [← hw4] at hB hS
  rw [← hw4]
  have hB' : Blk w4 w.heap.size #[.int .i64 17, .int .i64 0, .int .i64 0, .int .i64 0, .int .i64 0, .int .i64 0, .slice ka kn kc] 24 := hB
  clear hw4 hB
  have x0 : w4.cell? ⟨w.heap.size, 0, none⟩ = some (.int .i64 17) := (hB'.cell 0).trans rfl
  have x1 : w4.cell? ⟨w.heap.size, 1, none⟩ = some (.int .i64 0) := (hB'.cell 1).trans rfl
  have x2 : w4.cell? ⟨w.heap.size, 2, none⟩ = some (.int .i64 0) := (hB'.cell 2).trans rfl
  have x3 : w4.cell? ⟨w.heap.size, 3, none⟩ = some (.int .i64 0) := (hB'.cell 3).trans rfl
  have x4 : w4.cell? ⟨w.heap.size, 4, none⟩ = some (.int .i64 0) := (hB'.cell 4).trans rfl
  have x5 : w4.cell? ⟨w.heap.size, 5, none⟩ = some (.int .i64 0) := (hB'.cell 5).trans rfl
  have x6 : w4.cell? ⟨w.heap.size, 6, none⟩ = some (.slice ka kn kc) := (hB'.cell 6).trans rfl
  have hbl : Below w.heap.size w w4 := l2.trans (hS.below l2.size (fun j hj e => by omega))
  have hrow4 : IRow w4 w.heap.size (.slice ka kn kc) l := by
    have h1 := row_stays hrow hS (fun j hj e => by have := hne j hj; omega)
    refine ⟨h1.1, ?_⟩
    rcases h1.2 with h | ⟨g, cap, cur, h2, h3, h4⟩
    · exact .inl h
    · exact .inr ⟨g, cap, cur, h2, by omega, h4⟩
  refine ⟨rfl, .agg #[.int .i64 17, .int .i64 0, .int .i64 0, .int .i64 0, .int .i64 0, .int .i64 0, .slice ka kn kc], ?_, hbl, .slice ka kn kc, rfl, hrow4⟩
  simp [results, Tryz.results46, go_sem, x0, x1, x2, x3, x4, x5, x6]
end Go.Proofs.YtddnmocoaahlfaaGreatDoor
