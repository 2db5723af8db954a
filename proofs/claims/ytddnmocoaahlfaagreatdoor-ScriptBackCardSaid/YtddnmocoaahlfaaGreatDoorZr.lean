/-
  Steps for arrays that are written out: built, laid into a new block, in one step each. No condition.
  The reference's Word, Valid and Text. Conditions: the numbers are ints; the row of numbers lies in memory.
  The reference's reading of number texts in plain Lean: what a number text looks like. No condition; no program in sight.
  The reference's Read, Parts, numbers and Kind. Conditions: texts of at most 65536 bytes.
  The reference's numbers and Kind. Conditions: the row of strings lies in memory.
  A whole struct stored into a block of the call's own. No condition.
  The reference's Of. Condition: the row of numbers lies in memory.
  Slices without their first element, whatever their capacity, in one step. No condition.
  The reference's Parse. Condition: lines of at most 65536 bytes.
  undec and undecAll. Conditions: the package-level variables hold what the program lays; texts of at most 65536 bytes.
  The written-out arrays of the reference's Named and plantLine, in one step each. No condition.
  The reference's Named, and both checks of tokens. No condition.
  The reference's Text. Conditions: the numbers are ints; the row of numbers lies in memory.
  EventText. Conditions: the package-level variables hold what the program lays; texts of at most 65536 bytes.
-/
import Derived.Test.YtddnmocoaahlfaaGreatDoorBase
import Derived.Deep.WholeRow
import Derived.Test.YtddnmocoaahlfaaGreatDoorLine2
import Derived.Test.YtddnmocoaahlfaaGreatDoorY6
import Derived.Test.YtddnmocoaahlfaaGreatDoorY8
import Derived.Deep.DeepCutAuto
import Derived.Test.YtddnmocoaahlfaaGreatDoorY3
import Derived.Test.YtddnmocoaahlfaaGreatDoorMach
import Derived.Test.YtddnmocoaahlfaaGreatDoorPlt
set_option linter.unusedVariables false
set_option linter.unusedSimpArgs false

namespace Go.Proofs.YtddnmocoaahlfaaGreatDoor
open Go.RowKit
theorem wpList_val {P : Program} {w w' : World} {ops : Array Oper} {rest : List Oper} {o : Oper} {a : Act} {Q : Exit → Act → World → Prop} (hgd : o.guard = none) (S : Sem Value) (hex : execOp a.eval o = (do pure (.value (← S))))
    (v : Value) (hrun : S.run P w = .ok v w') (h : wpList P ops Q rest (a.put o.dst v) w') : wpList P ops Q (o :: rest) a w := by
  refine wpList_plain hgd fun K hK => ?_
  unfold Oper.wp
  simp only [hex, Sem.run_bind, Sem.run_pure, hrun, Result.andThen_ok]
  exact hK _ _ h
theorem wpList_unit {P : Program} {w w' : World} {ops : Array Oper} {rest : List Oper} {o : Oper} {a : Act} {Q : Exit → Act → World → Prop} (hgd : o.guard = none) (hd : o.dst = none) (S : Sem Unit) (hex : execOp a.eval o = (do S; pure .skip))
    (hrun : S.run P w = .ok () w') (h : wpList P ops Q rest a w') : wpList P ops Q (o :: rest) a w := by
  refine wpList_plain hgd fun K hK => ?_
  unfold Oper.wp
  simp only [hex, Sem.run_bind, Sem.run_pure, hrun, Result.andThen_ok]
  refine hK _ _ ?_
  rw [hd]
  exact h
end Go.Proofs.YtddnmocoaahlfaaGreatDoor
namespace Go.Proofs.YtddnmocoaahlfaaGreatDoor
open Go.RowKit Go.Shelf
/-- The word of a kind, and how many fields it has. -/
def refWord (k : Int) : List UInt8 × Nat := if k < 1 ∨ k > 17 then ([], 0) else (wordOf k.toNat, fieldsOf k.toNat)
theorem refWord_le (k : Int) : (refWord k).2 ≤ 5 ∧ (refWord k).1.length ≤ 64 := by
  unfold refWord
  split
  · exact ⟨Nat.zero_le _, Nat.zero_le _⟩
  · rename_i h
    obtain ⟨j, hj, e⟩ : ∃ j, j < 17 ∧ k.toNat = j + 1 := ⟨k.toNat - 1, by omega, by omega⟩
    rw [e]
    simp only
    rw [word_get hj, fields_get hj]
    exact ⟨acts_le j hj, word_len j hj⟩
end Go.Proofs.YtddnmocoaahlfaaGreatDoor
namespace Go.Proofs.YtddnmocoaahlfaaGreatDoor
open Go.Lib
theorem valFrom_snoc (acc : Nat) (l : List UInt8) (c : UInt8) : valFrom acc (l ++ [c]) = 10 * valFrom acc l + (c.toNat - 48) := by unfold valFrom; simp
end Go.Proofs.YtddnmocoaahlfaaGreatDoor
namespace Go.Proofs.YtddnmocoaahlfaaGreatDoor
open Go.RowKit Go.Shelf
theorem txt_inj' {a b : ByteArray} (h : txt a = txt b) : a = b := by
  cases a; cases b
  simp only [txt] at h
  congr 1
  exact Array.toList_inj.1 h
/-- What a text says of itself as a number. -/
structure RdOk (l : List UInt8) (x : Int) (b : Bool) : Prop where
  int : I64 x
  some : b = (undecL l).isSome
  val : ∀ v, undecL l = .some v → x = v
theorem wrap_i64 (n : Int) : I64 (wrap64 n) := by unfold I64 wrap64; omega
theorem wrap_in {n : Int} (h : I64 n) : wrap64 n = n := by unfold I64 at h; unfold wrap64; omega
/-- What the loop of Read keeps: the digits behind the sign up to a place. -/
structure RdAt (l : List UInt8) (fr i : Nat) (n : Int) : Prop where
  int : I64 n
  dig : ∀ c ∈ (l.take i).drop fr, isDig c = true
  val : valFrom 0 ((l.take i).drop fr) ≤ 9223372036854775808 → n = -(valFrom 0 ((l.take i).drop fr) : Nat)
theorem take_drop_snoc {l : List UInt8} {fr i : Nat} (hf : fr ≤ i) (hi : i < l.length) : (l.take (i + 1)).drop fr = (l.take i).drop fr ++ [l[i]] := by
  rw [List.take_succ_eq_append_getElem hi, List.drop_append_of_le_length (by rw [List.length_take]; omega)]
theorem RdAt.next {l : List UInt8} {fr i : Nat} {n : Int} (h : RdAt l fr i n) (hf : fr ≤ i) (hi : i < l.length) {c : UInt8} (hc : c = l[i]) (hd : isDig c = true) : RdAt l fr (i + 1) (wrap64 (wrap64 (10 * n) - ((c.toNat : Int) - 48))) := by
  have hr := dig_range hd
  refine ⟨wrap_i64 _, ?_, ?_⟩
  · rw [take_drop_snoc hf hi]
    intro d hm
    rcases List.mem_append.1 hm with hm | hm
    · exact h.dig d hm
    · rw [List.mem_singleton.1 hm, ← hc]; exact hd
  · rw [take_drop_snoc hf hi, valFrom_snoc, ← hc]
    intro hle
    have hn := h.val (by omega)
    rw [hn, wrap_in (n := 10 * _) ⟨by omega, by omega⟩, wrap_in ⟨by omega, by omega⟩]
    omega
theorem byte_get {s : ByteArray} {i : Nat} (h : i < s.size) : (txt s)[i]'(by simpa using h) = s[i] := rfl
end Go.Proofs.YtddnmocoaahlfaaGreatDoor
namespace Go.Proofs.YtddnmocoaahlfaaGreatDoor
open Go.RowKit Go.Shelf
theorem srw_get {w : World} {p : Option Addr} {n c : Nat} {l : List ByteArray} (h : SRw w (.slice p n c) l) {i : Nat} (hi : i < l.length) : ∃ L o, p = some ⟨L, o, none⟩ ∧ w.cell? ⟨L, o + i, none⟩ = some (.string l[i]) := by
  rcases h with ⟨rfl, _⟩ | ⟨_, L, o, c', h1, _, h3⟩
  · simp at hi
  · injection h1 with h1 _ _
    exact ⟨L, o, h1, h3 i hi⟩
/-- The numbers so far and those of the texts still to come. -/
def numsFrom (ns : List Int) (r : List (List UInt8)) : Option (List Int) := match undecAllL r with | none => none | some l => some (ns ++ l)
theorem numsFrom_start (r : List (List UInt8)) : numsFrom [] r = undecAllL r := by unfold numsFrom; cases undecAllL r <;> rfl
theorem numsFrom_end (ns : List Int) : numsFrom ns [] = some ns := by unfold numsFrom undecAllL; simp
theorem undecAll_cons (s : List UInt8) (r : List (List UInt8)) : undecAllL (s :: r) = match undecL s with | none => none | some n => match undecAllL r with | none => none | some l => some (n :: l) := rfl
theorem numsFrom_next {ns : List Int} {s : List UInt8} {r : List (List UInt8)} {n : Int} (h : undecL s = some n) : numsFrom ns (s :: r) = numsFrom (ns ++ [n]) r := by
  unfold numsFrom
  rw [undecAll_cons, h]
  cases undecAllL r <;> simp
theorem numsFrom_stop {ns : List Int} {s : List UInt8} {r : List (List UInt8)} (h : undecL s = none) : numsFrom ns (s :: r) = none := by
  unfold numsFrom
  rw [undecAll_cons, h]
/-- What reading numbers ends in. -/
def RetNo (w : World) (r : Option (List Int)) (e : Ending) (w' : World) : Prop := Below w.heap.size w w' ∧ match r with
  | none => e = .returned (.tuple #[.slice none 0 0, .bool false])
  | some l => ∃ v, e = .returned (.tuple #[v, .bool true]) ∧ IRow w' w.heap.size v l
theorem drop_map {ss : List ByteArray} {k : Nat} (h : k < ss.length) : (ss.drop k).map txt = txt ss[k] :: (ss.drop (k + 1)).map txt := by rw [List.drop_eq_getElem_cons h]; rfl
end Go.Proofs.YtddnmocoaahlfaaGreatDoor
namespace Go.Proofs.YtddnmocoaahlfaaGreatDoor
open Go.RowKit
theorem setRow_heap (w : World) (R : Nat) (cs c' : Array Value) (t : TypeId) (h : Blk w R cs t) : Blk (w.setRow R c') R c' t := by
  unfold Blk at *
  unfold World.setRow
  simp [Array.getElem?_modify, h]
theorem setRow_other (w : World) (R : Nat) (c' : Array Value) {k : Nat} (h : k ≠ R) : (w.setRow R c').heap[k]? = w.heap[k]? := by
  unfold World.setRow
  simp [Array.getElem?_modify, Ne.symm h]
theorem setRow_stays (w : World) (R : Nat) (c' : Array Value) : Stays (fun k => k = R) w (w.setRow R c') :=
  ⟨rfl, rfl, rfl, by unfold World.setRow; simp, fun k hk hn => setRow_other w R c' hn⟩
theorem blk_store {w : World} {R : Nat} {cs c' : Array Value} {t : TypeId} (h : Blk w R cs t) (hi : (Tryz.prog.info? t).map (·.size) = some c'.size) (ho : cs.size = c'.size) (h1 : c'.toList.all (·.oneCell') = true) :
    (Instr.storeAt t (.pointer (some ⟨R, 0, none⟩)) (.agg c')).run Tryz.prog w = .ok () (w.setRow R c') := by
  simp only [Instr.storeAt, Instr.sureAddr, Sem.run_bind, Sem.run_pure, Result.andThen]
  exact run_storeVar_row _ _ t t cs c' h hi ho (by rw [← Array.all_toList]; exact h1)
theorem size24 : (Tryz.prog.info? 24).map (·.size) = some 7 := by kernel_rfl
end Go.Proofs.YtddnmocoaahlfaaGreatDoor
namespace Go.Proofs.YtddnmocoaahlfaaGreatDoor
open Go.RowKit Go.Shelf
/-- How many numbers an act of a kind takes. -/
def takesR (k n : Nat) : Bool := if k = 17 then decide (n ≤ 16) else decide (n = (refWord k).2)
theorem acts_cells {w : World} {R : Nat} {k a b c d e : Int} {p : Option Addr} {n m : Nat} (h : Blk w R #[.int .i64 k, .int .i64 a, .int .i64 b, .int .i64 c, .int .i64 d, .int .i64 e, .slice p n m] 24) :
    w.cell? ⟨R, 0, none⟩ = some (.int .i64 k) ∧ w.cell? ⟨R, 1, none⟩ = some (.int .i64 a) ∧ w.cell? ⟨R, 2, none⟩ = some (.int .i64 b) ∧ w.cell? ⟨R, 3, none⟩ = some (.int .i64 c) ∧ w.cell? ⟨R, 4, none⟩ = some (.int .i64 d) ∧ w.cell? ⟨R, 5, none⟩ = some (.int .i64 e) ∧ w.cell? ⟨R, 6, none⟩ = some (.slice p n m) :=
  ⟨(h.cell 0).trans rfl, (h.cell 1).trans rfl, (h.cell 2).trans rfl, (h.cell 3).trans rfl, (h.cell 4).trans rfl, (h.cell 5).trans rfl, (h.cell 6).trans rfl⟩
theorem nrow_stays {M : Nat → Prop} {w w' : World} {v : Value} {l : List Int} (h : NRow w v l) (b : Stays M w w') (hM : ∀ L o c, v = .slice (some ⟨L, o, none⟩) l.length c → l ≠ [] → ¬ M L) : NRow w' v l := by
  rcases h with h | ⟨h0, L, o, c, h1, h2, h3⟩
  · exact .inl h
  · refine .inr ⟨h0, L, o, c, h1, h2, fun j hj => ?_⟩
    have hc := h3 j hj
    exact (World.cell?_of_block (a := ⟨L, o + j, none⟩) (b.block L (World.block_lt_of_cell? w _ hc) (hM L o c h1 h0))).trans hc
end Go.Proofs.YtddnmocoaahlfaaGreatDoor
namespace Go.Proofs.YtddnmocoaahlfaaGreatDoor
open Go.RowKit
theorem elem27 : Tryz.prog.underlying 27 = some (.slice (Tryz.prog.elem 27)) := by kernel_rfl
theorem elemz27 (w : World) : (sizeOf (Tryz.prog.elem 27)).run Tryz.prog w = .ok 1 w := by kernel_rfl
/-- A row of strings without its first one. -/
theorem tail27 (g o m c : Nat) (hc : m + 1 ≤ c) : ∃ A : Addr, (m ≠ 0 → A = ⟨g, o + 1, none⟩) ∧ ∀ w, (Instr.sliceAt 27 (.slice (some ⟨g, o, none⟩) (m + 1) c) (some (.int .i64 1)) none none).run Tryz.prog w = .ok (.slice (some A) m (c - 1)) w := by
  by_cases h1 : c = 1
  · subst h1
    refine ⟨⟨g, o, none⟩, fun h => by omega, fun w => ?_⟩
    rw [run_sliceAt_slice w 27 _ _ _ _ elem27, run_slice_l w 27 _ _ _ elem27 _ _ (by decide) (by omega), elemz27]
    simp [Result.andThen, sliced]
  · refine ⟨⟨g, o + 1, none⟩, fun _ => rfl, fun w => ?_⟩
    rw [run_sliceAt_slice w 27 _ _ _ _ elem27, run_slice_l w 27 _ _ _ elem27 _ _ (by decide) (by omega), elemz27]
    have : (1 : Int).toNat = 1 := rfl
    simp [Result.andThen, sliced, h1, Addr.add]
/-- The rest of a row of strings. -/
theorem srw_tail {w : World} {v : Value} {s : ByteArray} {st : List ByteArray} (h : SRw w v (s :: st)) : ∃ g o c, v = .slice (some ⟨g, o, none⟩) (st.length + 1) c ∧ st.length + 1 ≤ c ∧ w.cell? ⟨g, o, none⟩ = some (.string s) ∧
    ∃ A : Addr, (∀ w, (Instr.sliceAt 27 (.slice (some ⟨g, o, none⟩) (st.length + 1) c) (some (.int .i64 1)) none none).run Tryz.prog w = .ok (.slice (some A) st.length (c - 1)) w) ∧ SRw w (.slice (some A) st.length (c - 1)) st := by
  rcases h with ⟨h0, _⟩ | ⟨_, g, o, c, rfl, h2, h3⟩
  · cases h0
  · simp only [List.length_cons] at h2 ⊢
    obtain ⟨A, hA, hs⟩ := tail27 g o st.length c h2
    refine ⟨g, o, c, rfl, h2, h3 0 (by simp), A, hs, ?_⟩
    by_cases hst : st = []
    · subst hst; exact .inl ⟨rfl, _, _, rfl⟩
    · refine .inr ⟨hst, g, o + 1, c - 1, by rw [hA (fun e => hst (List.length_eq_zero_iff.1 e))], by omega, fun j hj => ?_⟩
      have := h3 (j + 1) (by simp; omega)
      rw [show o + 1 + j = o + (j + 1) by omega, this]
      rfl
end Go.Proofs.YtddnmocoaahlfaaGreatDoor
namespace Go.Proofs.YtddnmocoaahlfaaGreatDoor
open Go.RowKit Go.Shelf
/-- It returns this act and this error. -/
def RetAE (w : World) (r : Act5 × Int) (e : Ending) (w' : World) : Prop := Below w.heap.size w w' ∧ ∃ (a b c d f : Int) (p : Option Addr) (n m : Nat), e = .returned (.tuple #[actV r.1.kind a b c d f (.slice p n m), .int .i64 r.2]) ∧ r.1.f = [a, b, c, d, f] ∧ NRow w' (.slice p n m) r.1.keep
theorem cut_cons (b : UInt8) (s : List UInt8) : ∃ u us, cutAt b s = u :: us := by
  obtain ⟨u, us, h⟩ := List.exists_cons_of_ne_nil (cutAt_ne b s)
  exact ⟨u, us, h⟩
theorem takes_len {k n : Nat} (h : takesR k n = true) : n ≤ 16 := by
  unfold takesR at h
  split at h
  · simpa using h
  · have := (refWord_le k).1
    simp at h
    omega
theorem takes_iff {k n : Nat} (h0 : k ≠ 0) (hk : k ≤ 17) : takesR k n = true ↔ ¬ ((k ≠ 17 ∧ n ≠ fieldsOf k) ∨ n > 16) := by
  have hf : (refWord k).2 = fieldsOf k := by unfold refWord; rw [if_neg (by omega)]; rfl
  have h5 := (refWord_le k).1
  rw [hf] at h5
  unfold takesR
  rw [hf]
  by_cases h17 : k = 17
  · rw [if_pos h17]; simp; omega
  · rw [if_neg h17]; simp; omega
theorem parseAct_bad {k : Nat} {ps : List (List UInt8)} {l : List Int} (h : undecAllL ps = some l) (hk : k ≤ 17) (h1 : k = 0 ∨ takesR k l.length = false) : parseAct k ps = (actZero, 4) := by
  unfold parseAct
  rw [h]
  simp only
  by_cases h0 : k = 0
  · rw [if_pos h0]
  · rw [if_neg h0, if_pos]
    have h2 := h1.resolve_left h0
    apply Classical.byContradiction
    intro hh
    rw [(takes_iff h0 hk).2 hh] at h2
    cases h2
theorem parseAct_ok {k : Nat} {ps : List (List UInt8)} {l : List Int} (h : undecAllL ps = some l) (hk : k ≤ 17) (h0 : k ≠ 0) (h1 : takesR k l.length = true) : parseAct k ps = (makeActL k l, 0) := by
  unfold parseAct
  rw [h]
  simp only
  rw [if_neg h0, if_neg ((takes_iff h0 hk).1 h1)]
theorem parseAct_none {k : Nat} {ps : List (List UInt8)} (h : undecAllL ps = none) : parseAct k ps = (actZero, 4) := by
  unfold parseAct
  rw [h]
theorem actOf_le17 (t : List UInt8) : actOfL t ≤ 17 := actOf_le t
end Go.Proofs.YtddnmocoaahlfaaGreatDoor
namespace Go.Proofs.YtddnmocoaahlfaaGreatDoor
open Go.RowKit Go.Shelf
theorem atoi3 (l : List UInt8) : (∃ v, Lib.atoiAll l = .ok v) ∨ Lib.atoiAll l = .range ∨ Lib.atoiAll l = Lib.atoiAll [] := by
  cases h : Lib.atoiAll l with
  | ok v => exact .inl ⟨v, rfl⟩
  | range => exact .inr (.inl rfl)
  | _ => exact .inr (.inr rfl)
/-- What Atoi ends in. -/
def RetAt (w : World) (l : List UInt8) (e : Ending) (w' : World) : Prop := Below w.heap.size w w' ∧ ((∃ v, e = .returned (.tuple #[.int .i64 v, .nilIface]) ∧ Lib.atoiAll l = .ok v) ∨ (∃ x N, e = .returned (.tuple #[.int .i64 x, .iface 229 (.pointer (some ⟨N, 0, none⟩))]) ∧ undecL l = none))
theorem atoi_any {w : World} (hr : ErrR w) (hs : ErrS w) (s : ByteArray) (hsz : s.size ≤ 65536) : Calls Tryz.prog 122 #[.string s] w (RetAt w (txt s)) := by
  rcases atoi3 (txt s) with ⟨v, h⟩ | h | h
  · refine (Tryz.strconv_Atoi_ok s (by omega) v h w).mono ?_
    rintro e w' ⟨rfl, rfl | ⟨t, rfl⟩⟩
    · exact ⟨Below.refl _ _, .inl ⟨v, rfl, h⟩⟩
    · exact ⟨Go.Joins.below_bytesWorld _ _ _ _ (Nat.le_refl _), .inl ⟨v, rfl, h⟩⟩
  · obtain ⟨ev, h1, h2⟩ := hr
    refine (Tryz.strconv_Atoi_range s (by omega) h ev w h1 h2).mono ?_
    rintro e w' ⟨N, rfl, _, _, hb⟩
    exact ⟨hb, .inr ⟨_, N, rfl, by unfold undecL; rw [h]⟩⟩
  · obtain ⟨ev, h1, h2⟩ := hs
    refine (Tryz.strconv_Atoi_syntax s (by omega) h ev w h1 h2).mono ?_
    rintro e w' ⟨N, rfl, _, _, hb⟩
    exact ⟨hb, .inr ⟨_, N, rfl, by unfold undecL; rw [h]; rfl⟩⟩
/-- What undec ends in. -/
def RetUn (w : World) (l : List UInt8) (e : Ending) (w' : World) : Prop := Below w.heap.size w w' ∧ ∃ x b, e = .returned (.tuple #[.int .i64 x, .bool b]) ∧ b = (undecL l).isSome ∧ ∀ v, undecL l = some v → x = v
set_option maxRecDepth 100000 in
set_option maxHeartbeats 4000000 in
theorem undec_any {w : World} (he : Env w) (s : ByteArray) (hsz : s.size ≤ 65536) : Calls Tryz.prog 79 #[.string s] w (RetUn w (txt s)) := by
  have HA := Lib.hid (atoi_any he.errR he.errS s hsz)
  have HE := Lib.hid he
  clear he
  go_enter Tryz.func79, Tryz.ntmps79
  go_wp2_with fail
  refine HA.out.mono ?_
  rintro e w1 ⟨b1, ⟨v, rfl, h⟩ | ⟨x, N, rfl, h⟩⟩
  · have HD := Lib.hid (dec_any (tab_below HE.out.tab b1) (Lib.atoiAll_bounds h))
    have hu : undecL (txt s) = if Lib.itoa v = txt s then some v else none := by unfold undecL; rw [h]
    have HU := Lib.hid hu
    clear h hu
    go_wp2_with fail
    refine HD.out.mono ?_
    rintro e w2 ⟨b2, sd, rfl, hsd⟩
    have hb : (sd.toList == s.toList) = decide (Lib.itoa v = txt s) := by rw [ByteArray.toList_eq s, lit_str', hsd]
    have HB := Lib.hid hb
    clear hsd hb
    go_wp2_with fail
    go_ret2
    refine ⟨b1.trans (b2.mono b1.size), v, _, rfl, ?_, ?_⟩
    · rw [HB.out, HU.out]
      by_cases he : Lib.itoa v = txt s
      · simp [he]
      · simp [he]
    · intro v' hv'
      rw [HU.out] at hv'
      split at hv'
      · injection hv'
      · cases hv'
  · have HU := Lib.hid h
    clear h
    go_wp2_with fail
    go_ret2
    exact ⟨b1, x, false, rfl, by rw [HU.out]; rfl, fun v hv => by rw [HU.out] at hv; cases hv⟩
set_option maxRecDepth 100000 in
set_option maxHeartbeats 8000000 in
theorem undecAll_any {w : World} (he : Env w) {v : Value} {ss : List ByteArray} (hr : SRw w v ss) (hl : ss.length ≤ 131072) (hsz : ∀ x ∈ ss, x.size ≤ 65536) : Calls Tryz.prog 45 #[v] w (RetNo w (undecAllL (ss.map txt))) := by
  obtain ⟨i0, hi, hz0, hz1, hz2⟩ := info_parts info3
  obtain ⟨p, c, rfl⟩ := hr.form
  have HR := Lib.hid hr
  have HE := Lib.hid he
  have HSZ := Lib.hid hsz
  obtain ⟨res, hres⟩ : ∃ res, res = undecAllL (ss.map txt) := ⟨_, rfl⟩
  rw [← hres]
  have HS := Lib.hid hres
  have hcap : ss = [] ∨ ss.length ≤ c := by
    rcases hr with ⟨rfl, _⟩ | ⟨_, L, o, c', h1, h2, h3⟩
    · exact .inl rfl
    · injection h1 with _ _ h1; subst h1; exact .inr h2
  clear hres hr he hsz
  go_enter Tryz.func45, Tryz.ntmps45
  go_wp2_with fail
  go_loopw [11, 4] (fun t v4 wr => ∃ (k : Nat) (ns : List Int), t = .int .i64 k ∧ k ≤ ss.length ∧ ns.length = k ∧ wr.ownsRow w.heap.size 3 1 v4 ns.length (ns.map fun n => Value.int .i64 n) ∧ numsFrom ns ((ss.drop k).map txt) = res ∧ Below w.heap.size w wr) (fun t v4 wr => ss.length - (intOf t).toNat)
  case atStart => exact ⟨0, [], rfl, Nat.zero_le _, rfl, World.ownsRow_nil _ _ _ _, by rw [List.drop_zero, numsFrom_start]; exact HS.out.symm, Below.refl _ _⟩
  case round =>
    obtain ⟨k, ns, rfl, hk, hnk, hown, hev, hbl⟩ := hrel
    have hszr := hbl.size
    have HNK := Lib.hid hnk
    have hnl : ns.length ≤ 131072 := by omega
    clear hnk
    by_cases hlt : k < ss.length
    · obtain ⟨L, o, rfl, ck0⟩ := srw_get HR.out hlt
      have ck := cell_below ck0 hbl
      have hcc : ss.length ≤ c := hcap.resolve_left (fun e => by rw [e] at hlt; simp at hlt)
      rw [drop_map hlt] at hev
      have HE2 := Lib.hid hev
      have hxs := HSZ.out ss[k] (List.getElem_mem hlt)
      generalize ss[k] = x at *
      have HRD := Lib.hid (undec_any (HE.out.below hbl) x hxs)
      clear hev ck0
      cases hu : undecL (txt x) with
      | none =>
        have hrn : res = none := by rw [← HE2.out, numsFrom_stop hu]
        have HRN := Lib.hid hrn
        have HU := Lib.hid hu
        clear hrn hu
        go_wp2_with fail
        refine HRD.out.mono ?_
        rintro e w1 ⟨b1, n, b, rfl, hb, _⟩
        rw [HU.out] at hb
        have hb' : b = false := hb
        subst hb'
        clear hb
        go_wp2_with fail
        go_ret2
        unfold RetNo
        rw [HRN.out]
        exact ⟨hbl.trans (b1.mono hszr), rfl⟩
      | some n =>
        have hnx := numsFrom_next (ns := ns) (r := (ss.drop (k + 1)).map txt) hu
        have HNX := Lib.hid hnx
        have HU := Lib.hid hu
        clear hnx hu
        go_wp2_with fail
        refine HRD.out.mono ?_
        rintro e w1 ⟨b1, x1, b, rfl, hb, hv1⟩
        rw [HU.out] at hb
        have hb' : b = true := hb
        have hx1 : x1 = n := hv1 n HU.out
        subst hb'
        subst hx1
        clear hb hv1
        have hown1 : w1.ownsRow w.heap.size 3 1 _ ns.length (ns.map fun n => Value.int .i64 n) := row_keep hown (fun j hj => b1.block j (hown.lt j hj).2)
        have hbl1 := hbl.trans (b1.mono hszr)
        have hsz1 := hbl1.size
        go_wp2_with (at_builtin; refine wpList_append_lies _ rfl _ _ 22 rfl w.heap.size 3 i0 (.int .i64 0) 1 8 Tryz.underlying22 hi hz0 hz1 hz2 rfl (by decide) _ _ _ rfl (hown1.alloc _) ⟨w1.heap.size, 0, none⟩ 1 1 [.int .i64 x1] rfl rfl (one_new _ _ _) (by simp [Value.oneCell']) (by decide) (by unfold maxLen; omega) (by omega) (by simp; omega) _ rfl ?_; intro g cap2 w2 hown2 hgr hat hg2)
        have hbl2 : Below w.heap.size w w2 := (hbl1.alloc hsz1 _).grown hgr (by simp; omega) (fun j hj => (hown.lt j hj).1)
        go_wp2_with fail
        go_roundw
        case rel => exact ⟨k + 1, ns ++ [x1], by go_num, by omega, by simp [HNK.out], by simpa using hown2, by rw [← HNX.out]; exact HE2.out, hbl2⟩
        case measure => simp [intOf]; omega
    · have hkk : k = ss.length := by omega
      have hrn : res = some ns := by rw [← hev, List.drop_of_length_le (by omega), List.map_nil, numsFrom_end]
      have HRN := Lib.hid hrn
      clear hrn hev
      go_wp2_with fail
      go_ret2
      unfold RetNo
      rw [HRN.out]
      exact ⟨hbl, _, rfl, hown⟩
end Go.Proofs.YtddnmocoaahlfaaGreatDoor
namespace Go.Proofs.YtddnmocoaahlfaaGreatDoor
open Go.RowKit
end Go.Proofs.YtddnmocoaahlfaaGreatDoor
namespace Go.Proofs.YtddnmocoaahlfaaGreatDoor
open Go.RowKit Go.Shelf
def tokB (c : UInt8) : Bool := 33 ≤ c && c ≤ 126
theorem tokB_range {c : UInt8} : tokB c = true ↔ 33 ≤ c.toNat ∧ c.toNat ≤ 126 := by
  unfold tokB
  simp only [Bool.and_eq_true, decide_eq_true_eq, UInt8.le_iff_toNat_le]
  exact Iff.rfl
set_option maxRecDepth 100000 in
set_option maxHeartbeats 4000000 in
theorem isTok_any (s : ByteArray) (w : World) (hs : s.size ≤ 281474976710656) : Calls Tryz.prog 48 #[.string s] w (fun e w' => e = .returned (.bool (isTokL (txt s))) ∧ w' = w) := by
  obtain ⟨res, hres⟩ : ∃ res, res = isTokL (txt s) := ⟨_, rfl⟩
  rw [← hres]
  have HS := Lib.hid hres
  have HSZ := Lib.hid (show (txt s).length = s.size by simp)
  clear hres
  go_enter Tryz.func48, Tryz.ntmps48
  go_wp2_with fail
  go_loop [6] (fun t => ∃ m : Nat, m ≤ s.size ∧ t = .int .i64 m ∧ ((txt s).take m).all tokB = true) (fun t => s.size - (intOf t).toNat)
  case atStart => exact ⟨0, Nat.zero_le _, rfl, by simp⟩
  case round =>
    obtain ⟨m, hm, rfl, hc⟩ := hrel
    have HC := Lib.hid hc
    clear hc
    by_cases hl : m < s.size
    · have hml : m < (txt s).length := by rw [HSZ.out]; exact hl
      have hst : (txt s).take (m + 1) = (txt s).take m ++ [s[m]] := by rw [List.take_succ_eq_append_getElem hml, byte_get hl]
      have hmem : s[m] ∈ txt s := by rw [← byte_get hl]; exact List.getElem_mem _
      have HST := Lib.hid hst
      have HM := Lib.hid hmem
      clear hst hmem
      by_cases hb : tokB s[m] = true
      · have hr := tokB_range.1 hb
        have e1 : decide (((s[m]).toNat : Int) < 33) = false := decide_eq_false (by omega)
        have e2 : decide ((126 : Int) < ((s[m]).toNat : Int)) = false := decide_eq_false (by omega)
        have HB := Lib.hid hb
        clear hb
        go_wp2_with fail
        go_round
        case rel => exact ⟨m + 1, by omega, by go_num, by rw [HST.out, List.all_append, HC.out]; simp [HB.out]⟩
        case measure => simp [intOf]; omega
      · have hr : res = false := by
          rw [HS.out]
          unfold isTokL
          have : (txt s).all (fun c => 33 ≤ c && c ≤ 126) = false := by
            rw [Bool.eq_false_iff]
            intro h
            rw [List.all_eq_true] at h
            exact hb (h _ HM.out)
          rw [this]; rfl
        subst hr
        have hr2 := mt tokB_range.2 hb
        rcases Nat.lt_or_ge (s[m]).toNat 33 with h | h
        · have e1 : decide (((s[m]).toNat : Int) < 33) = true := decide_eq_true (by omega)
          clear hb hr2
          go_wp2_with fail
          go_ret
          exact ⟨rfl, rfl⟩
        · have e1 : decide (((s[m]).toNat : Int) < 33) = false := decide_eq_false (by omega)
          have e2 : decide ((126 : Int) < ((s[m]).toNat : Int)) = true := decide_eq_true (by omega)
          clear hb hr2
          go_wp2_with fail
          go_ret
          exact ⟨rfl, rfl⟩
    · have hms : m = s.size := by omega
      have hall : (txt s).all (fun c => 33 ≤ c && c ≤ 126) = true := by
        have h := HC.out
        rw [hms, ← HSZ.out, List.take_length] at h
        exact h
      have hr : res = (decide (1 ≤ s.size) && decide (s.size ≤ 64)) := by
        rw [HS.out]; unfold isTokL; rw [hall, HSZ.out]; rfl
      have HR := Lib.hid hr
      clear hall hr
      by_cases h1 : 1 ≤ s.size
      · have d1 : decide ((0 : Int) < (s.size : Int)) = true := decide_eq_true (by omega)
        by_cases h2 : s.size ≤ 64
        · have d2 : decide ((s.size : Int) ≤ 64) = true := decide_eq_true (by omega)
          have hr : res = true := by rw [HR.out]; simp [h1, h2]
          subst hr
          go_wp2_with fail
          go_ret
          exact ⟨rfl, rfl⟩
        · have d2 : decide ((s.size : Int) ≤ 64) = false := decide_eq_false (by omega)
          have hr : res = false := by rw [HR.out]; simp [h2]
          subst hr
          go_wp2_with fail
          go_ret
          exact ⟨rfl, rfl⟩
      · have d1 : decide ((0 : Int) < (s.size : Int)) = false := decide_eq_false (by omega)
        have hr : res = false := by rw [HR.out]; simp [h1]
        subst hr
        go_wp2_with fail
        go_ret
        exact ⟨rfl, rfl⟩
end Go.Proofs.YtddnmocoaahlfaaGreatDoor
namespace Go.Proofs.YtddnmocoaahlfaaGreatDoor
open Go.RowKit Go.Shelf
end Go.Proofs.YtddnmocoaahlfaaGreatDoor
namespace Go.Proofs.YtddnmocoaahlfaaGreatDoor
open Go.RowKit Go.Shelf
/-- An event's value. -/
abbrev evA (k a b c : Int) (s : ByteArray) : Value := .agg #[.int .i64 k, .int .i64 a, .int .i64 b, .int .i64 c, .string s]
theorem evs_get {j : Nat} (hj : j < 25) : evWord (j + 1) = (evWords[j]!).1 ∧ evNums (j + 1) = (evWords[j]!).2.1 ∧ evTok (j + 1) = (evWords[j]!).2.2 := by
  have : ∀ j : Fin 25, evWord (j.val + 1) = (evWords[j.val]!).1 ∧ evNums (j.val + 1) = (evWords[j.val]!).2.1 ∧ evTok (j.val + 1) = (evWords[j.val]!).2.2 := by decide
  exact this ⟨j, hj⟩
theorem evw_len : ∀ j : Fin 25, (evWords[j.val]!).1.length ≤ 64 ∧ (evWords[j.val]!).2.1 ≤ 3 := by decide
theorem evs_cells {w : World} (h : Evs w) {j : Nat} (hj : j < 25) : w.cell? ⟨1, j * 3, none⟩ = some (.string ⟨(evWords[j]!).1.toArray⟩) ∧ w.cell? ⟨1, j * 3 + 1, none⟩ = some (.int .i64 (evWords[j]!).2.1) ∧ w.cell? ⟨1, j * 3 + 2, none⟩ = some (.bool (evWords[j]!).2.2) := by
  have h0 := h.2 j hj 0 _ rfl
  have h1 := h.2 j hj 1 _ rfl
  have h2 := h.2 j hj 2 _ rfl
  rw [Nat.zero_add] at h0 h1 h2
  exact ⟨h0, h1, h2⟩
theorem drop_all3 {f : List Int} (hf : f.length = 3) {n : Nat} (h : ∀ j (hj : j < f.length), n ≤ j → f[j] = 0) : (f.drop n).all (· = 0) = true := by
  rw [List.all_eq_true]
  intro x hx
  obtain ⟨i, hi, rfl⟩ := List.getElem_of_mem hx
  rw [List.getElem_drop]
  simp only [List.length_drop] at hi
  simp [h (n + i) (by omega) (by omega)]
set_option maxRecDepth 100000 in
set_option maxHeartbeats 8000000 in
theorem evText_any {w : World} (he : Env w) (hev : Evs w) {k a b c : Int} {s : ByteArray} (ha : I64 a) (hb : I64 b) (hc : I64 c) (hs : s.size ≤ 65536) : Calls Tryz.prog 23 #[evA k a b c s] w (RetTE w (evTextT k [a, b, c] (txt s))) := by
  obtain ⟨res, hres⟩ : ∃ res, res = evTextT k [a, b, c] (txt s) := ⟨_, rfl⟩
  rw [← hres]
  have hs' : s.size ≤ 281474976710656 := by omega
  by_cases h1 : k < 1
  · have hr : res = ([], 2) := by rw [hres]; unfold evTextT; rw [if_pos (.inl h1)]
    have HR := Lib.hid hr
    have d1 : decide (k < 1) = true := decide_eq_true h1
    clear hr hres he hev ha hb hc
    go_enter Tryz.func23, Tryz.ntmps23
    go_wp2_with fail
    go_ret2
    unfold RetTE
    rw [HR.out]
    exact ⟨(Below.refl _ _).alloc (Nat.le_refl _) _, _, rfl, rfl⟩
  have d1 : decide (k < 1) = false := decide_eq_false h1
  by_cases h2 : k > 25
  · have hr : res = ([], 2) := by rw [hres]; unfold evTextT; rw [if_pos (.inr h2)]
    have HR := Lib.hid hr
    have d2 : decide (25 < k) = true := decide_eq_true h2
    clear hr hres he hev ha hb hc
    go_enter Tryz.func23, Tryz.ntmps23
    go_wp2_with fail
    go_ret2
    unfold RetTE
    rw [HR.out]
    exact ⟨(Below.refl _ _).alloc (Nat.le_refl _) _, _, rfl, rfl⟩
  have d2 : decide (25 < k) = false := decide_eq_false h2
  obtain ⟨j, hj, rfl⟩ : ∃ j : Nat, j < 25 ∧ k = ((j : Int) + 1) := ⟨(k - 1).toNat, by omega, by omega⟩
  obtain ⟨f, hf⟩ : ∃ f : List Int, f = [a, b, c] := ⟨_, rfl⟩
  have hres2 : res = if (f.drop (evWords[j]!).2.1).all (· = 0) = true then (if (evWords[j]!).2.2 then (if isTokL (txt s) then (lineT (evWords[j]!).1 (f.take (evWords[j]!).2.1) ++ 32 :: txt s, (0 : Int)) else ([], 2)) else if txt s = [] then (lineT (evWords[j]!).1 (f.take (evWords[j]!).2.1), 0) else ([], 2)) else ([], 2) := by
    rw [hres]
    unfold evTextT
    rw [if_neg (by omega), show ((j : Int) + 1).toNat = j + 1 by omega, (evs_get hj).1, (evs_get hj).2.1, (evs_get hj).2.2, ← hf]
  obtain ⟨w1, hw1⟩ : ∃ w1, w1 = w.alloc (.cells #[.int .i64 ((j : Int) + 1), .int .i64 a, .int .i64 b, .int .i64 c, .string s] 26) := ⟨_, rfl⟩
  have l1 : Below w.heap.size w w1 := by rw [hw1]; exact (Below.refl _ _).alloc (Nat.le_refl _) _
  have z1 : w1.heap.size = w.heap.size + 1 := by rw [hw1]; simp
  obtain ⟨t0, t1, t2⟩ := evs_cells (hev.below l1) hj
  obtain ⟨hwl, hn3⟩ := evw_len ⟨j, hj⟩
  simp only at hwl hn3
  have h11 : 1 < w.heap.size := hev.1
  generalize hwd : (evWords[j]!).1 = wd at *
  generalize hnn : (evWords[j]!).2.1 = n at *
  generalize htk : (evWords[j]!).2.2 = tk at *
  obtain ⟨w2, hw2⟩ : ∃ w2, w2 = w1.alloc (.cells #[.string ⟨wd.toArray⟩, .int .i64 n, .bool tk] 84) := ⟨_, rfl⟩
  have z2 : w2.heap.size = w.heap.size + 2 := by rw [hw2]; simp [z1]
  have l2 : Below w.heap.size w w2 := l1.trans (by rw [hw2]; exact (Below.refl _ _).alloc (by omega) _)
  obtain ⟨w3, hw3⟩ : ∃ w3, w3 = w2.alloc (.cells #[.int .i64 a, .int .i64 b, .int .i64 c] 3) := ⟨_, rfl⟩
  have l3 : Below w.heap.size w w3 := l2.trans (by rw [hw3]; exact (Below.refl _ _).alloc (by omega) _)
  have B3 : Blk w3 (w.heap.size + 1 + 1) #[.int .i64 a, .int .i64 b, .int .i64 c] 3 := by rw [hw3, show w.heap.size + 1 + 1 = w2.heap.size by omega]; exact Blk.new w2 _ _
  have B2 : Blk w2 (w.heap.size + 1) #[.string ⟨wd.toArray⟩, .int .i64 n, .bool tk] 84 := by rw [hw2, ← z1]; exact Blk.new w1 _ _
  have B23 : Blk w3 (w.heap.size + 1) #[.string ⟨wd.toArray⟩, .int .i64 n, .bool tk] 84 := by rw [hw3]; exact B2.alloc _
  have f0 : w3.cell? ⟨w.heap.size + 1, 0, none⟩ = some (.string ⟨wd.toArray⟩) := (B23.cell 0).trans rfl
  have f1 : w3.cell? ⟨w.heap.size + 1, 1, none⟩ = some (.int .i64 n) := (B23.cell 1).trans rfl
  have f2 : w3.cell? ⟨w.heap.size + 1, 2, none⟩ = some (.bool tk) := (B23.cell 2).trans rfl
  have e4 : w3.cell? ⟨w.heap.size, 4, none⟩ = some (.string s) := by
    have BE : Blk w3 w.heap.size #[.int .i64 ((j : Int) + 1), .int .i64 a, .int .i64 b, .int .i64 c, .string s] 26 := by rw [hw3, hw2, hw1]; exact ((Blk.new w _ _).alloc _).alloc _
    exact (BE.cell 4).trans rfl
  have hS0 : ∀ W, Below w3.heap.size w3 W → (W.cell? ⟨w.heap.size + 1, 0, none⟩ = some (.string ⟨wd.toArray⟩) ∧ W.cell? ⟨w.heap.size + 1, 1, none⟩ = some (.int .i64 n) ∧ W.cell? ⟨w.heap.size, 4, none⟩ = some (.string s)) := fun W hW => ⟨cell_below f0 hW, cell_below f1 hW, cell_below e4 hW⟩
  have S0 := Lib.hid hS0
  clear hS0
  have hfl : f.length = 3 := by rw [hf]; rfl
  have hcf : ∀ i (h : i < f.length), w3.cell? ⟨w.heap.size + 1 + 1, i, none⟩ = some (.int .i64 f[i]) := fun i h => by
    rw [B3.cell i]
    have h3 : i < 3 := by omega
    subst hf
    match i, h3 with
    | 0, _ => rfl
    | 1, _ => rfl
    | 2, _ => rfl
  have hfi : ∀ x ∈ f, I64 x := by
    rw [hf]
    intro x hx
    simp only [List.mem_cons, List.not_mem_nil, or_false] at hx
    rcases hx with rfl | rfl | rfl
    · exact ha
    · exact hb
    · exact hc
  have hlen := lineT_len wd (f.take n) (fun x hx => hfi x (List.mem_of_mem_take hx))
  have hlt3 : (f.take n).length = n := by rw [List.length_take]; omega
  have hjoin : ∀ W, Below w3.heap.size w3 W → Calls Tryz.prog 42 #[.string ⟨wd.toArray⟩, .slice (some ⟨w.heap.size + 1 + 1, 0, none⟩) n 3, .slice none 0 0] W (RetStr W (lineT wd (f.take n))) := fun W hW => by
    have h := join_any (tab_below he.tab (l3.trans (hW.mono l3.size))) (word := ⟨wd.toArray⟩) (mv := .slice none 0 0) (ms := []) ((nrow_take hcf n (by omega) 3 (by omega)).below hW) (fun x hx => hfi x (List.mem_of_mem_take hx)) (.inl ⟨rfl, _, _, rfl⟩) (by omega) (by simp) (by
      show (joinB 32 wd ((f.take n).map Lib.itoa ++ [])).length ≤ _
      rw [List.append_nil, ← line_join]; omega)
    have e1 : joinB 32 (txt ⟨wd.toArray⟩) ((f.take n).map Lib.itoa ++ List.map txt []) = lineT wd (f.take n) := by
      show joinB 32 wd ((f.take n).map Lib.itoa ++ []) = _
      rw [List.append_nil, line_join]
    rw [e1] at h
    exact h
  have hjoin2 : ∀ W, Below w3.heap.size w3 W → Blk W w3.heap.size #[.string s] 9 → Calls Tryz.prog 42 #[.string ⟨wd.toArray⟩, .slice (some ⟨w.heap.size + 1 + 1, 0, none⟩) n 3, .slice (some ⟨w3.heap.size, 0, none⟩) 1 1] W (RetStr W (lineT wd (f.take n) ++ 32 :: txt s)) := fun W hW hB => by
    have hsl : (txt s).length = s.size := by simp
    have e1 : joinB 32 (txt ⟨wd.toArray⟩) ((f.take n).map Lib.itoa ++ List.map txt [s]) = lineT wd (f.take n) ++ 32 :: txt s := by
      show joinB 32 wd ((f.take n).map Lib.itoa ++ [txt s]) = _
      rw [line_join]; unfold joinB; simp
    have h := join_any (tab_below he.tab (l3.trans (hW.mono l3.size))) (word := ⟨wd.toArray⟩) (mv := .slice (some ⟨w3.heap.size, 0, none⟩) 1 1) (ms := [s]) ((nrow_take hcf n (by omega) 3 (by omega)).below hW) (fun x hx => hfi x (List.mem_of_mem_take hx))
      (.inr ⟨by simp, w3.heap.size, 0, 1, rfl, Nat.le_refl _, ⟨_, _, hB⟩, fun i hi => by
        have : i = 0 := by simp at hi; omega
        subst this
        exact (hB.cell 0).trans rfl⟩) (by omega) (by simp) (by rw [e1]; simp; omega)
    rw [e1] at h
    exact h
  have HJ := Lib.hid (show Calls Tryz.prog 42 #[.string ⟨wd.toArray⟩, .slice (some ⟨w.heap.size + 1 + 1, 0, none⟩) n 3, .slice none 0 0] w3.drew (fun e w' => Below w3.heap.size w3 w' ∧ ∃ sj : ByteArray, e = .returned (.string sj) ∧ txt sj = lineT wd (f.take n)) from (hjoin w3.drew (Below.refl _ w3).drew).mono fun e w' h => ⟨(Below.refl _ w3).drew.trans h.1, h.2⟩)
  have HJ2 := Lib.hid (show Calls Tryz.prog 42 #[.string ⟨wd.toArray⟩, .slice (some ⟨w.heap.size + 1 + 1, 0, none⟩) n 3, .slice (some ⟨w3.heap.size, 0, none⟩) 1 1] (w3.alloc (.cells #[.string s] 9)).drew (fun e w' => Below w3.heap.size w3 w' ∧ ∃ sj : ByteArray, e = .returned (.string sj) ∧ txt sj = lineT wd (f.take n) ++ 32 :: txt s) from (hjoin2 (w3.alloc (.cells #[.string s] 9)).drew ((Below.refl _ w3).alloc (Nat.le_refl _) _).drew ((Blk.new w3 _ _).drewN 1)).mono fun e w' h => ⟨((Below.refl _ w3).alloc (Nat.le_refl _) _).drew.trans (h.1.mono (by simp [World.drew])), h.2⟩)
  have HRS := Lib.hid hres2
  have HCF := Lib.hid hcf
  have HFL := Lib.hid hfl
  have HW1 := Lib.hid hw1
  have HW2 := Lib.hid hw2
  have hw3' := hw3
  rw [hw2, hw1] at hw3'
  have HW3 := Lib.hid hw3'
  have hwj : ((j : Int) + 1 - 1) = j := by omega
  have hn3i : (n : Int) ≤ 3 := by omega
  have hn0i : (0 : Int) ≤ (n : Int) := by omega
  rw [hw1] at t0 t1 t2
  clear hres hres2 hjoin hjoin2 he hev ha hb hc hcf hf hfl hfi hw1 hw2 hw3 hw3' z1 z2 B2 B3 B23 hlen hlt3 hwd hnn htk h1 h2 l1 l2
  by_cases h5 : n = 3
  · have h5z : 3 - n = 0 := by omega
    have H5 := Lib.hid h5
    clear h5
    go_enter Tryz.func23, Tryz.ntmps23
    go_wp2_with fail
    refine wp_loop_rounds 1 ?_
    rw [rounds_succ]
    have hall : (f.drop n).all (· = 0) = true := drop_all3 HFL.out (fun q hq h => by have := HFL.out; have := H5.out; omega)
    obtain ⟨r, hr⟩ : ∃ r, r = (if tk then (if isTokL (txt s) then (lineT wd (f.take n) ++ 32 :: txt s, (0 : Int)) else ([], 2)) else if txt s = [] then (lineT wd (f.take n), 0) else ([], 2)) := ⟨_, rfl⟩
    have hres2 : res = r := by rw [HRS.out, if_pos hall, hr]
    subst hres2
    have HR := Lib.hid hr
    clear hall hr HRS
    cases tk with
    | false =>
      by_cases hs0 : txt s = []
      · have d1 : (s.toList == []) = true := by rw [lit_str']; exact decide_eq_true hs0
        have hr : res = (lineT wd (f.take n), 0) := by rw [HR.out]; simp [hs0]
        have HRR := Lib.hid hr
        clear hr hs0
        go_upto_region 14 with fail
        rw [← HW3.out]
        go_region_held3 (fun w' => w'.cell? ⟨w.heap.size + 1, 0, none⟩ = some (.string ⟨wd.toArray⟩) ∧ w'.cell? ⟨w.heap.size + 1, 1, none⟩ = some (.int .i64 n) ∧ w'.cell? ⟨w.heap.size, 4, none⟩ = some (.string s)) (first | (with_reducible exact ⟨f0, f1, e4⟩) | (go_split_ands; with_reducible exact ⟨by assumption, by assumption, by assumption⟩) | (refine S0.out _ ?_; repeat (first | assumption | (with_reducible exact Below.refl _ _) | (with_reducible apply Below.drew) | (with_reducible refine Below.alloc ?_ (Nat.le_refl _) _)))) (first | (go_at_call 42; (with_reducible refine HJ.out.mono ?_); rintro ex w4 ⟨b4, sj, rfl, hj⟩))
        all_goals (go_wp2_with fail; go_ret2; unfold RetTE; rw [HRR.out]; exact ⟨l3.trans (b4.mono l3.size), sj, rfl, hj⟩)
      · have d1 : (s.toList == []) = false := by rw [lit_str']; exact decide_eq_false hs0
        have hr : res = ([], 2) := by rw [HR.out]; simp [hs0]
        have HRR := Lib.hid hr
        clear hr hs0
        go_wp2_with fail
        go_ret2
        unfold RetTE
        rw [HRR.out]
        rw [← HW3.out]
        exact ⟨l3, _, rfl, rfl⟩
    | true =>
      have HT := Lib.hid (isTok_any s)
      by_cases ht : isTokL (txt s) = true
      · have hr : res = (lineT wd (f.take n) ++ 32 :: txt s, 0) := by rw [HR.out]; simp [ht]
        have HRR := Lib.hid hr
        rw [ht] at HT
        clear hr ht
        go_upto_region 17 with (go_at_call 48; refine (HT.out _ hs').mono ?_; rintro ex w4 ⟨rfl, rfl⟩)
        rw [← HW3.out]
        go_region_held3 (fun w' => w'.cell? ⟨w.heap.size + 1, 0, none⟩ = some (.string ⟨wd.toArray⟩) ∧ w'.cell? ⟨w.heap.size + 1, 1, none⟩ = some (.int .i64 n) ∧ w'.cell? ⟨w.heap.size, 4, none⟩ = some (.string s)) (first | (with_reducible exact ⟨f0, f1, e4⟩) | (go_split_ands; with_reducible exact ⟨by assumption, by assumption, by assumption⟩) | (refine S0.out _ ?_; repeat (first | assumption | (with_reducible exact Below.refl _ _) | (with_reducible apply Below.drew) | (with_reducible refine Below.alloc ?_ (Nat.le_refl _) _)))) (first | (go_at_call 42; (with_reducible refine HJ2.out.mono ?_); rintro ex w4 ⟨b4, sj, rfl, hj⟩))
        all_goals (go_wp2_with fail; go_ret2; unfold RetTE; rw [HRR.out]; exact ⟨l3.trans (b4.mono l3.size), sj, rfl, hj⟩)
      · have ht' : isTokL (txt s) = false := by simpa using ht
        have hr : res = ([], 2) := by rw [HR.out]; simp [ht']
        have HRR := Lib.hid hr
        rw [ht'] at HT
        clear hr ht ht'
        go_wp2_with (go_at_call 48; refine (HT.out _ hs').mono ?_; rintro ex w4 ⟨rfl, rfl⟩)
        go_ret2
        unfold RetTE
        rw [HRR.out]
        rw [← HW3.out]
        exact ⟨l3, _, rfl, rfl⟩
  · have h5n : ¬ 3 - n = 0 := by omega
    have hlt5 : n < 3 := by omega
    go_enter Tryz.func23, Tryz.ntmps23
    go_wp2_with fail
    go_loop [33] (fun t => ∃ i : Nat, t = .int .i64 i ∧ i ≤ 3 - n ∧ ∀ q (hq : q < f.length), n ≤ q → q < n + i → f[q] = 0) (fun t => 3 - n - (intOf t).toNat)
    case atStart => exact ⟨0, rfl, Nat.zero_le _, fun q hq h1 h2 => by omega⟩
    case round =>
      obtain ⟨i, rfl, hi, hz⟩ := hrel
      have HZ := Lib.hid hz
      clear hz
      by_cases hlt : i < 3 - n
      · have hqi : n + i < f.length := by have := HFL.out; omega
        have hci := HCF.out (n + i) hqi
        have HX := Lib.hid (drop_not hqi (Nat.le_add_right n i))
        have HQ := Lib.hid (show ∀ x, x = f[n + i] → x = 0 → ∀ q (hq : q < f.length), n ≤ q → q < n + (i + 1) → f[q] = 0 from fun x hx h0 q hq h1 h2 => by
          by_cases e : q = n + i
          · subst e; rw [← hx]; exact h0
          · exact HZ.out q hq h1 (by omega))
        obtain ⟨x, hx⟩ : ∃ x, x = f[n + i] := ⟨_, rfl⟩
        rw [← hx] at hci HX
        have HXE := Lib.hid hx
        clear hx
        rw [HW3.out] at hci
        by_cases h0 : x = 0
        · have d0 : (x != 0) = false := by simp [h0]
          have H0 := Lib.hid h0
          clear h0
          go_wp2_with fail
          go_round
          case rel => exact ⟨i + 1, by go_num, by omega, HQ.out x HXE.out H0.out⟩
          case measure => simp [intOf]; omega
        · have d0 : (x != 0) = true := by simp [h0]
          have hr : res = ([], 2) := by rw [HRS.out, HX.out h0]; rfl
          have HR := Lib.hid hr
          clear hr h0
          go_wp2_with fail
          go_ret2
          unfold RetTE
          rw [HR.out]
          rw [← HW3.out]
          exact ⟨l3, _, rfl, rfl⟩
      · have hall : (f.drop n).all (· = 0) = true := drop_all3 HFL.out (fun q hq h => HZ.out q hq h (by have := HFL.out; omega))
        obtain ⟨r, hr⟩ : ∃ r, r = (if tk then (if isTokL (txt s) then (lineT wd (f.take n) ++ 32 :: txt s, (0 : Int)) else ([], 2)) else if txt s = [] then (lineT wd (f.take n), 0) else ([], 2)) := ⟨_, rfl⟩
        have hres2 : res = r := by rw [HRS.out, if_pos hall, hr]
        subst hres2
        have HR := Lib.hid hr
        clear hall hr HRS
        cases tk with
        | false =>
          by_cases hs0 : txt s = []
          · have d1 : (s.toList == []) = true := by rw [lit_str']; exact decide_eq_true hs0
            have hr : res = (lineT wd (f.take n), 0) := by rw [HR.out]; simp [hs0]
            have HRR := Lib.hid hr
            clear hr hs0
            go_upto_region 14 with fail
            rw [← HW3.out]
            go_region_held3 (fun w' => w'.cell? ⟨w.heap.size + 1, 0, none⟩ = some (.string ⟨wd.toArray⟩) ∧ w'.cell? ⟨w.heap.size + 1, 1, none⟩ = some (.int .i64 n) ∧ w'.cell? ⟨w.heap.size, 4, none⟩ = some (.string s)) (first | (with_reducible exact ⟨f0, f1, e4⟩) | (go_split_ands; with_reducible exact ⟨by assumption, by assumption, by assumption⟩) | (refine S0.out _ ?_; repeat (first | assumption | (with_reducible exact Below.refl _ _) | (with_reducible apply Below.drew) | (with_reducible refine Below.alloc ?_ (Nat.le_refl _) _)))) (first | (go_at_call 42; (with_reducible refine HJ.out.mono ?_); rintro ex w4 ⟨b4, sj, rfl, hj⟩))
            all_goals (go_wp2_with fail; go_ret2; unfold RetTE; rw [HRR.out]; exact ⟨l3.trans (b4.mono l3.size), sj, rfl, hj⟩)
          · have d1 : (s.toList == []) = false := by rw [lit_str']; exact decide_eq_false hs0
            have hr : res = ([], 2) := by rw [HR.out]; simp [hs0]
            have HRR := Lib.hid hr
            clear hr hs0
            go_wp2_with fail
            go_ret2
            unfold RetTE
            rw [HRR.out]
            rw [← HW3.out]
            exact ⟨l3, _, rfl, rfl⟩
        | true =>
          have HT := Lib.hid (isTok_any s)
          by_cases ht : isTokL (txt s) = true
          · have hr : res = (lineT wd (f.take n) ++ 32 :: txt s, 0) := by rw [HR.out]; simp [ht]
            have HRR := Lib.hid hr
            rw [ht] at HT
            clear hr ht
            go_upto_region 17 with (go_at_call 48; refine (HT.out _ hs').mono ?_; rintro ex w4 ⟨rfl, rfl⟩)
            rw [← HW3.out]
            go_region_held3 (fun w' => w'.cell? ⟨w.heap.size + 1, 0, none⟩ = some (.string ⟨wd.toArray⟩) ∧ w'.cell? ⟨w.heap.size + 1, 1, none⟩ = some (.int .i64 n) ∧ w'.cell? ⟨w.heap.size, 4, none⟩ = some (.string s)) (first | (with_reducible exact ⟨f0, f1, e4⟩) | (go_split_ands; with_reducible exact ⟨by assumption, by assumption, by assumption⟩) | (refine S0.out _ ?_; repeat (first | assumption | (with_reducible exact Below.refl _ _) | (with_reducible apply Below.drew) | (with_reducible refine Below.alloc ?_ (Nat.le_refl _) _)))) (first | (go_at_call 42; (with_reducible refine HJ2.out.mono ?_); rintro ex w4 ⟨b4, sj, rfl, hj⟩))
            all_goals (go_wp2_with fail; go_ret2; unfold RetTE; rw [HRR.out]; exact ⟨l3.trans (b4.mono l3.size), sj, rfl, hj⟩)
          · have ht' : isTokL (txt s) = false := by simpa using ht
            have hr : res = ([], 2) := by rw [HR.out]; simp [ht']
            have HRR := Lib.hid hr
            rw [ht'] at HT
            clear hr ht ht'
            go_wp2_with (go_at_call 48; refine (HT.out _ hs').mono ?_; rintro ex w4 ⟨rfl, rfl⟩)
            go_ret2
            unfold RetTE
            rw [HRR.out]
            rw [← HW3.out]
            exact ⟨l3, _, rfl, rfl⟩
end Go.Proofs.YtddnmocoaahlfaaGreatDoor
