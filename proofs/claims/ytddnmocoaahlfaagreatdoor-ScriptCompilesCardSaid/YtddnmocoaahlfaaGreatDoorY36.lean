/-
  The texts of numbers, acts and events in plain Lean.
  The texts of lines: dec, join, numbers, Text.
  Eval: the value of an expression for names and their values, or its error.
  What the arguments of the laws are in memory: rows of ints, rows of strings, acts, events.
  The law's own check of a number, and the reference's number texts: Number writes the decimal text. No condition but that the number is an int.
  The texts of plants in plain Lean.
  What a plant is in memory, and as an argument of a law. Conditions: the package-level variables hold what the program lays; the bounds that it states.
-/
import Derived.Test.YtddnmocoaahlfaaGreatDoorPlain
import Derived.Lib.AtoiAllCases
import Derived.Test.YtddnmocoaahlfaaGreatDoorY30
import Derived.Test.YtddnmocoaahlfaaGreatDoorY38
import Derived.Lib.AppendIntMem
import Derived.Deep.Upon
import Derived.Test.YtddnmocoaahlfaaGreatDoorMach
import Derived.Test.YtddnmocoaahlfaaGreatDoorY27
import Derived.StillTailTactics
import Derived.Laws.EntriesVeiled
import Derived.Deep.WholeRow
import Derived.ProofKit
import Derived.Lib.SmallJoins
import Derived.Test.YtddnmocoaahlfaaGreatDoorBase
import Derived.Lib.ItoaLen
set_option linter.unusedVariables false
set_option linter.unusedSimpArgs false
set_option maxHeartbeats 4000000
namespace Go.Proofs.YtddnmocoaahlfaaGreatDoor
open Go.Lib
def I64 (n : Int) : Prop := -9223372036854775808 ≤ n ∧ n ≤ 9223372036854775807
def valFrom (acc : Nat) (l : List UInt8) : Nat := l.foldl (fun n c => 10 * n + (c.toNat - 48)) acc
theorem dig_range {c : UInt8} (h : isDig c = true) : 48 ≤ c.toNat ∧ c.toNat ≤ 57 := by
  unfold isDig at h
  simp only [Bool.and_eq_true, decide_eq_true_eq, UInt8.le_iff_toNat_le] at h
  exact h
theorem valFrom_le : ∀ (l : List UInt8) (acc : Nat), acc ≤ valFrom acc l
  | [], acc => Nat.le_refl _
  | c :: l, acc => by
    have := valFrom_le l (10 * acc + (c.toNat - 48))
    unfold valFrom at *
    rw [List.foldl_cons]
    omega
theorem parse_val : ∀ (l : List UInt8) (acc : Nat), (∀ c ∈ l, isDig c = true) → valFrom acc l < 18446744073709551616 → parseUint10 acc l = .ok (valFrom acc l)
  | [], acc, _, _ => rfl
  | c :: l, acc, hd, hv => by
    have h1 := dig_range (hd c (by simp))
    have e : valFrom acc (c :: l) = valFrom (10 * acc + (c.toNat - 48)) l := rfl
    rw [e] at hv ⊢
    have h2 := valFrom_le l (10 * acc + (c.toNat - 48))
    unfold parseUint10
    rw [if_pos h1, if_neg (by omega), if_neg (by omega), Nat.mul_comm acc 10]
    exact parse_val l _ (fun d hm => hd d (by simp [hm])) hv
theorem mag_dec {u : Nat} (h : u < 18446744073709551616) : parseMag (decDigits u) = .ok u := by
  obtain ⟨h1, h2, c, t, h3, _⟩ := decDigits_facts u
  unfold parseMag
  rw [if_neg (by rw [h3]; simp)]
  have e : valFrom 0 (decDigits u) = u := h2
  rw [parse_val _ _ h1 (by rw [e]; exact h), e]
theorem atoi_itoa {n : Int} (h : I64 n) : atoiAll (itoa n) = .ok n := by
  unfold I64 at h
  unfold itoa
  by_cases hn : n < 0
  · rw [if_pos hn, atoiAll_minus, mag_dec (by omega)]
    simp only [signed]
    rw [if_neg (by omega)]
    congr 1
    omega
  · rw [if_neg hn]
    obtain ⟨h1, h2, c, t, h3, _⟩ := decDigits_facts n.toNat
    have hm := mag_dec (u := n.toNat) (by omega)
    rw [h3] at hm h1 ⊢
    have hc := dig_range (h1 c (by simp))
    rw [atoiAll_plain c t (by omega) (by omega), hm]
    simp only [signless]
    rw [if_neg (by omega)]
    congr 1
    omega
def undecL (s : List UInt8) : Option Int := match atoiAll s with | .ok v => if itoa v = s then some v else none | _ => none
theorem undec_iff {s : List UInt8} {v : Int} : undecL s = some v ↔ I64 v ∧ itoa v = s := by
  constructor
  · intro h
    unfold undecL at h
    cases ha : atoiAll s with
    | ok u =>
      rw [ha] at h
      simp only at h
      split at h
      · injection h with h
        subst h
        exact ⟨atoiAll_bounds ha, by assumption⟩
      · cases h
    | range => rw [ha] at h; cases h
    | _ => rw [ha] at h; cases h
  · rintro ⟨h, rfl⟩
    unfold undecL
    rw [atoi_itoa h]
    simp
/-! Pieces between single bytes, joined again. -/
def joinB (b : UInt8) (w : List UInt8) (ps : List (List UInt8)) : List UInt8 := w ++ ps.flatMap (b :: ·)
theorem line_join (w : List UInt8) (l : List Int) : lineT w l = joinB 32 w (l.map itoa) := by unfold lineT joinB; rw [List.flatMap_map]
/-! The line of an act, read again. -/
theorem actOf_word {t : List UInt8} {k : Nat} (h : actOfL t = k) (hk : k ≠ 0) : wordOf k = t ∧ 1 ≤ k ∧ k ≤ 17 := by
  unfold actOfL at h
  cases hf : actWords.findIdx? (fun x => x.1 == t) with
  | none => rw [hf] at h; simp at h; omega
  | some i =>
    rw [hf] at h
    simp at h
    obtain ⟨hlt, h1, _⟩ := List.findIdx?_eq_some_iff_getElem.1 hf
    have h17 : actWords.length = 17 := rfl
    refine ⟨?_, by omega, by omega⟩
    unfold wordOf
    have e : k - 1 = i := by omega
    rw [e, List.getD_eq_getElem?_getD, List.getElem?_eq_getElem hlt]
    simpa using h1
/-! Events. -/
structure Ev3 where
  kind : Nat
  f : List Int
  text : List UInt8
deriving Repr, DecidableEq
end Go.Proofs.YtddnmocoaahlfaaGreatDoor
namespace Go.Proofs.YtddnmocoaahlfaaGreatDoor
open Go.RowKit Go.Shelf
def ErrS (w : World) : Prop := ∃ ev, w.cell? ⟨5, 0, none⟩ = some ev ∧ (ev = .nilIface ∨ ∃ te pe, ev = .iface te pe)
theorem ErrS.below {w w' : World} (h : ErrS w) (b : Below w.heap.size w w') : ErrS w' := let ⟨ev, h1, h2⟩ := h; ⟨ev, cell_below h1 b, h2⟩
abbrev Tab7 (w : World) : Prop := Lib.TabIs Tryz.prog w "internal/strconv.uint64pow10" .u64 Lib.pow10Tab
theorem g7 : Tryz.prog.globalNamed "internal/strconv.uint64pow10" = some 7 := by kernel_rfl
theorem tab_below {w w' : World} (h : Tab7 w) (b : Below w.heap.size w w') : Tab7 w' := by
  unfold Tab7 Lib.TabIs World.var? at *
  rw [g7] at *
  simp only [Option.bind_some] at *
  have h7 : 7 < w.heap.size := by
    rcases Nat.lt_or_ge 7 w.heap.size with hl | hl
    · exact hl
    · rw [Array.getElem?_eq_none hl] at h; cases h
  rw [b.block 7 h7]
  exact h
structure Env (w : World) : Prop where
  acts : Acts w
  maxv : MaxV w
  errR : ErrR w
  errS : ErrS w
  tab : Tab7 w
theorem Env.below {w w' : World} (h : Env w) (b : Below w.heap.size w w') : Env w' := ⟨h.acts.below b, h.maxv.below b, h.errR.below b, h.errS.below b, tab_below h.tab b⟩
def RetStr (w : World) (t : List UInt8) (e : Ending) (w' : World) : Prop := Below w.heap.size w w' ∧ ∃ s : ByteArray, e = .returned (.string s) ∧ txt s = t
theorem dec_any {w : World} (ht : Tab7 w) {n : Int} (hn : I64 n) : Calls Tryz.prog 76 #[.int .i64 n] w (RetStr w (Lib.itoa n)) := by
  have H := Lib.hid (Tryz.strconv_Itoa n hn.1 hn.2 w ht)
  go_enter Tryz.func76, Tryz.ntmps76
  go_wp2_with fail
  refine H.out.mono ?_
  rintro e w' ⟨rfl, k, os, rfl⟩
  go_wp2_with fail
  go_ret
  exact ⟨Lib.below_grow _ w (Nat.le_refl _) k os, _, rfl, rfl⟩
theorem src_zero {t : TypeId} {e : TypeId} (ht : Tryz.prog.underlying t = some (.slice e)) (size : Nat) (ma : Option Addr) (mc : Nat) (w : World) : Src Tryz.prog size t (.slice ma 0 mc) 0 [] w := by
  refine ⟨.inl ⟨e, ht⟩, fun w' => rfl, ?_, ?_, by simp, fun u hu => by cases hu⟩
  · cases ma <;> simp [Builtin.firstCells, loadCells, loadCellsFrom]
  · cases ma <;> simp [Builtin.firstCells, loadCells, loadCellsFrom]
theorem wpList_append_zero {w : World} {ops : Array Oper} {rest : List Oper} {o : Oper} {a : Act} {Q : Exit → Act → World → Prop} (hgd : o.guard = none) (s x : Operand) (t : TypeId)
    (ho : o.op = .call { callee := .builtin .append, args := #[s, x], argTypes := #[t, t] }) (e : TypeId) (i : TypeInfo) (ht : Tryz.prog.underlying t = some (.slice e)) (hi : Tryz.prog.info? e = some i)
    (b : Option Addr) (n c : Nat) (hs : a.eval s = .slice b n c) (hle : n ≤ c) (ma : Option Addr) (mc : Nat) (hx : a.eval x = .slice ma 0 mc)
    (h : wpList Tryz.prog ops Q rest (a.put o.dst (.slice b n c)) w) : wpList Tryz.prog ops Q (o :: rest) a w := by
  refine wpList_plain hgd fun K hK => ?_
  have hrun := run_append_nothing w t t o.type e i ht hi b n c hle _ (src_zero ht i.size ma mc w)
  unfold Oper.wp
  simp [execOp, ho, resolve, invoke, builtin, hs, hx, hrun, Result.andThen]
  exact hK _ _ h
def NRow (w : World) (v : Value) (l : List Int) : Prop :=
  (l = [] ∧ ∃ a c, v = .slice a 0 c) ∨ (l ≠ [] ∧ ∃ L o c, v = .slice (some ⟨L, o, none⟩) l.length c ∧ l.length ≤ c ∧ ∀ j (h : j < l.length), w.cell? ⟨L, o + j, none⟩ = some (.int .i64 l[j]))
theorem NRow.below {w w' : World} {v : Value} {l : List Int} (h : NRow w v l) (b : Below w.heap.size w w') : NRow w' v l := by
  rcases h with h | ⟨h0, L, o, c, h1, h2, h3⟩
  · exact .inl h
  · exact .inr ⟨h0, L, o, c, h1, h2, fun j hj => cell_below (h3 j hj) b⟩
theorem NRow.form {w : World} {v : Value} {l : List Int} (h : NRow w v l) : ∃ a c, v = .slice a l.length c := by
  rcases h with ⟨rfl, a, c, rfl⟩ | ⟨_, L, o, c, rfl, _⟩
  · exact ⟨a, c, rfl⟩
  · exact ⟨_, c, rfl⟩
theorem join_eq (x : List UInt8) (r : List (List UInt8)) : Lib.join (x :: r) [32] = joinB 32 x r := by
  rw [Lib.join_cons]
  unfold Lib.joinTail joinB
  rw [List.flatMap_def]
  rfl
set_option maxRecDepth 100000 in
theorem join_any {w : World} (he : Tab7 w) {word : ByteArray} {v mv : Value} {l : List Int} {ms : List ByteArray} (hv : NRow w v l) (hi : ∀ n ∈ l, I64 n) (hm : SRow w mv ms) (hl : l.length ≤ 100000) (hml : ms.length ≤ 100000)
    (hbig : (joinB 32 (txt word) (l.map Lib.itoa ++ ms.map txt)).length ≤ 140737488355328) : Calls Tryz.prog 42 #[.string word, v, mv] w (RetStr w (joinB 32 (txt word) (l.map Lib.itoa ++ ms.map txt))) := by
  obtain ⟨i0, hi0, hz0, hz1, hz2⟩ := info_parts info9
  obtain ⟨w1, hw1⟩ : ∃ w1, w1 = w.alloc (.cells #[.string word] 9) := ⟨_, rfl⟩
  have b1 : Blk w1 w.heap.size #[.string word] 9 := by rw [hw1]; exact Blk.new w _ _
  have l1 : Below w.heap.size w w1 := by rw [hw1]; exact (Below.refl _ _).alloc (Nat.le_refl _) _
  have z1 : w1.heap.size = w.heap.size + 1 := by rw [hw1]; simp
  have r1 : w1.ownsRow w.heap.size 9 1 (.slice (some ⟨w.heap.size, 0, none⟩) 1 1) [word].length ([word].map Value.string) :=
    ⟨rfl, .inr ⟨w.heap.size, 1, #[.string word], rfl, Nat.le_refl _, b1, Nat.le_refl _, by unfold maxLen; omega, rfl, rfl⟩⟩
  obtain ⟨va, vc, rfl⟩ := hv.form
  have HV := Lib.hid hv
  have HM := Lib.hid hm
  have HI := Lib.hid hi
  have HB := Lib.hid hbig
  have HE := Lib.hid he
  have R1 := Lib.hid r1
  have L1 := Lib.hid l1
  clear hv hm hi hbig he r1 l1 b1 z1
  have hcell : ∀ k (hk : k < l.length), ∃ L o, va = some ⟨L, o, none⟩ ∧ w.cell? ⟨L, o + k, none⟩ = some (.int .i64 l[k]) := fun k hk => by
    rcases HV.out with ⟨rfl, _⟩ | ⟨_, L, o, c, h1, _, h3⟩
    · simp at hk
    · injection h1 with h1 _ _
      exact ⟨L, o, h1, h3 k hk⟩
  have HC := Lib.hid hcell
  clear hcell
  subst hw1
  go_enter Tryz.func42, Tryz.ntmps42
  go_wp2_with fail
  go_loopw [14, 7] (fun t v7 wr => ∃ (k : Nat) (ps : List ByteArray), t = .int .i64 k ∧ k ≤ l.length ∧ ps.length = k + 1 ∧ wr.ownsRow w.heap.size 9 1 v7 ps.length (ps.map Value.string) ∧ ps.map txt = txt word :: (l.take k).map Lib.itoa ∧ Below w.heap.size w wr) (fun t v7 wr => l.length - (intOf t).toNat)
  case atStart => exact ⟨0, [word], rfl, Nat.zero_le _, rfl, R1.out, rfl, L1.out⟩
  case round =>
    obtain ⟨k, ps, rfl, hk, hps, hown, htx, hbl⟩ := hrel
    have HT := Lib.hid htx
    have HPS := Lib.hid hps
    have hpl : ps.length ≤ 100001 := by omega
    have hpp : 0 < ps.length := by omega
    clear hps
    have HO := Lib.hid hown
    clear htx
    by_cases hlt : k < l.length
    · obtain ⟨L, o, rfl, hck⟩ := HC.out k hlt
      have ck := cell_below hck hbl
      have hin := HI.out l[k] (List.getElem_mem hlt)
      have htk : (l.take (k + 1)).map Lib.itoa = (l.take k).map Lib.itoa ++ [Lib.itoa l[k]] := by
        have : l.take (k + 1) = l.take k ++ [l[k]] := by rw [List.take_succ_eq_append_getElem hlt]
        rw [this, List.map_append]; rfl
      have HTK := Lib.hid htk
      generalize l[k] = n at *
      have HD := Lib.hid (dec_any (tab_below HE.out hbl) hin)
      have hszr := hbl.size
      clear htk hck hown
      go_wp2_with fail
      refine HD.out.mono ?_
      rintro e w2 ⟨b2, sx, rfl, hsx⟩
      have hown2 := row_stays (M := fun _ => False) HO.out (.of b2) (fun _ _ h => h)
      have hbl2 := hbl.trans (b2.mono hszr)
      have hsz2 := hbl2.size
      go_wp2_with (at_builtin; refine wpList_append_lies _ rfl _ _ 27 rfl w.heap.size 9 i0 (.string ⟨#[]⟩) 1 16 Tryz.underlying27 hi0 hz0 hz1 hz2 rfl (by decide) _ _ _ rfl (hown2.alloc _) ⟨w2.heap.size, 0, none⟩ 1 1 [.string sx] rfl rfl (one_new _ _ _) (by simp [Value.oneCell']) (by decide) (by unfold maxLen; omega) (by omega) (by simp; omega) _ rfl ?_; intro g cap2 w3 hown3 hgr hat hg2)
      have hbl3 : Below w.heap.size w w3 := (hbl2.alloc hsz2 _).grown hgr (by simp; omega) (fun j hj => (HO.out.lt j hj).1)
      go_wp2_with fail
      go_roundw
      case rel => exact ⟨k + 1, ps ++ [sx], by go_num, by omega, by simp [HPS.out], by simpa using hown3, by rw [List.map_append, HT.out, HTK.out]; simp [hsx], hbl3⟩
      case measure => simp [intOf]; omega
    · have hkl : l.take k = l := List.take_of_length_le (by omega)
      rw [hkl] at HT
      clear hkl
      rcases HM.out with ⟨rfl, ma, mc, rfl⟩ | ⟨hms0, L2, o2, c2, rfl, hmc, ⟨cur2, zz2, hblk2⟩, hmcell⟩
      · obtain ⟨g, cap, cur, hu, hg0, hgg, hnc, hcm, hsz, htk⟩ := hown.2.resolve_left (fun h => by omega)
        subst hu
        have hcells : ∀ (j : Nat) x, ps[j]? = some x → wr.cell? ⟨g, 0 + j, none⟩ = some (.string x) := fun j x hj => by
          obtain ⟨h1, h2⟩ := List.getElem?_eq_some_iff.1 hj
          have := row_get hown hpp j (by simpa using h1)
          rw [Nat.zero_add, this]
          simp [h2]
        have hjn : Lib.join (ps.map (·.data.toList)) [32] = joinB 32 (txt word) (l.map Lib.itoa ++ List.map txt []) := by
          rw [show ps.map (·.data.toList) = txt word :: l.map Lib.itoa from HT.out, join_eq]; simp
        have HJ := Lib.hid (Tryz.strings_Join g 0 cap ps ⟨#[32]⟩ wr hcells (Array.getElem?_eq_some_iff.1 hgg).1 (by omega) hnc (by show (Lib.join (ps.map (·.data.toList)) [32]).length ≤ _; rw [hjn]; exact HB.out))
        have HJN := Lib.hid hjn
        have hszr := hbl.size
        clear hjn hcells htk hown
        go_wp2_with (at_builtin; refine wpList_append_zero rfl _ _ 27 rfl 9 i0 Tryz.underlying27 hi0 _ _ _ rfl hnc _ _ rfl ?_)
        refine HJ.out.mono ?_
        rintro e w5 ⟨rfl, b5⟩
        go_wp2_with fail
        go_ret
        exact ⟨hbl.trans (b5.mono hszr), _, rfl, HJN.out⟩
      · have hml' : 0 < ms.length := List.length_pos_iff.2 hms0
        have hszr := hbl.size
        have hmc2 : ∀ j u, (ms.map Value.string)[j]? = some u → wr.cell? ((⟨L2, o2, none⟩ : Addr).add j) = some u := fun j u hj => by
          rw [List.getElem?_map] at hj
          cases hm : ms[j]? with
          | none => rw [hm] at hj; cases hj
          | some y =>
            rw [hm] at hj
            injection hj with hj
            subst hj
            obtain ⟨h1, h2⟩ := List.getElem?_eq_some_iff.1 hm
            have := cell_below (hmcell j h1) hbl
            rw [h2] at this
            rw [Addr.add_lit]
            exact this
        have HMC := Lib.hid hmc2
        clear hmc2 hmcell hblk2
        go_wp2_with (at_builtin; refine wpList_append_lies _ rfl _ _ 27 rfl w.heap.size 9 i0 (.string ⟨#[]⟩) 1 16 Tryz.underlying27 hi0 hz0 hz1 hz2 rfl (by decide) _ _ _ rfl hown ⟨L2, o2, none⟩ ms.length _ (ms.map Value.string) rfl (by simp) HMC.out (by intro u hu; obtain ⟨y, _, rfl⟩ := List.mem_map.1 hu; rfl) hml' (by unfold maxLen; omega) (by omega) (by omega) _ rfl ?_; intro g cap2 w3 hown3 hgr hat hg2)
        have hcells : ∀ (j : Nat) x, (ps ++ ms)[j]? = some x → w3.cell? ⟨g, 0 + j, none⟩ = some (.string x) := fun j x hj => by
          obtain ⟨h1, h2⟩ := List.getElem?_eq_some_iff.1 hj
          have h3 := row_get hown3 (by omega) j (by simp at h1 ⊢; omega)
          rw [Nat.zero_add, h3]
          have h4 : (ps.map Value.string ++ ms.map Value.string)[j]? = some (.string x) := by rw [← List.map_append, List.getElem?_map, hj]; rfl
          rw [List.getElem?_eq_getElem (by simp at h1 ⊢; omega)] at h4
          exact h4
        have hjn : Lib.join ((ps ++ ms).map (·.data.toList)) [32] = joinB 32 (txt word) (l.map Lib.itoa ++ ms.map txt) := by
          rw [List.map_append, show ps.map (·.data.toList) = txt word :: l.map Lib.itoa from HT.out, List.cons_append, join_eq]
        have hcap : ps.length + ms.length ≤ cap2 := by
          rcases hown3.2 with ⟨h, _⟩ | ⟨g', c', cur', hv', _, _, h, _⟩
          · cases h
          · injection hv' with _ _ h9; omega
        have hbl3 : Below w.heap.size w w3 := hbl.grown hgr hszr (fun j hj => (hown.lt j hj).1)
        have HJ := Tryz.strings_Join g 0 cap2 (ps ++ ms) ⟨#[32]⟩ w3 hcells hg2 (by simp; omega) (by simp; omega) (by show (Lib.join ((ps ++ ms).map (·.data.toList)) [32]).length ≤ _; rw [hjn]; exact HB.out)
        rw [List.length_append] at HJ
        refine HJ.mono ?_
        rintro e w5 ⟨rfl, b5⟩
        go_wp2_with fail
        go_ret
        exact ⟨hbl3.trans (b5.mono hbl3.size), _, rfl, by rw [← List.map_append]; exact hjn⟩
end Go.Proofs.YtddnmocoaahlfaaGreatDoor
namespace Go.Proofs.YtddnmocoaahlfaaGreatDoor
open Go.RowKit Go.Maps Go.WideMaps
def scopeUp (ns : List ByteArray) (vs : List Int) : Nat → List UInt8 → Option Int
  | 0 => fun _ => none
  | k + 1 => upd (scopeUp ns vs k) (txt ns[k]!) vs[k]!
def scopeOf (ns : List ByteArray) (vs : List Int) : List UInt8 → Option Int := scopeUp ns vs (min ns.length vs.length)
def RetE (w : World) (r : Int × Int) (e : Ending) (w' : World) : Prop := Below w.heap.size w w' ∧ e = .returned (.tuple #[.int .i64 r.1, .int .i64 r.2])
theorem SRow.form {w : World} {v : Value} {ss : List ByteArray} (h : SRow w v ss) : ∃ a c, v = .slice a ss.length c := by
  rcases h with ⟨rfl, a, c, rfl⟩ | ⟨_, L, o, c, rfl, _⟩
  · exact ⟨a, c, rfl⟩
  · exact ⟨_, c, rfl⟩
def SRw (w : World) (v : Value) (ss : List ByteArray) : Prop :=
  (ss = [] ∧ ∃ a c, v = .slice a 0 c) ∨ (ss ≠ [] ∧ ∃ L o c, v = .slice (some ⟨L, o, none⟩) ss.length c ∧ ss.length ≤ c ∧ ∀ j (h : j < ss.length), w.cell? ⟨L, o + j, none⟩ = some (.string ss[j]))
theorem SRow.rw {w : World} {v : Value} {ss : List ByteArray} (h : SRow w v ss) : SRw w v ss := by
  rcases h with h | ⟨h0, L, o, c, h1, h2, _, h3⟩
  · exact .inl h
  · exact .inr ⟨h0, L, o, c, h1, h2, h3⟩
theorem SRw.below {w w' : World} {v : Value} {ss : List ByteArray} (h : SRw w v ss) (b : Below w.heap.size w w') : SRw w' v ss := by
  rcases h with h | ⟨h0, L, o, c, h1, h2, h3⟩
  · exact .inl h
  · exact .inr ⟨h0, L, o, c, h1, h2, fun j hj => cell_below (h3 j hj) b⟩
theorem SRw.form {w : World} {v : Value} {ss : List ByteArray} (h : SRw w v ss) : ∃ a c, v = .slice a ss.length c := by
  rcases h with ⟨rfl, a, c, rfl⟩ | ⟨_, L, o, c, rfl, _⟩
  · exact ⟨a, c, rfl⟩
  · exact ⟨_, c, rfl⟩
end Go.Proofs.YtddnmocoaahlfaaGreatDoor
namespace Go.Proofs.YtddnmocoaahlfaaGreatDoor
open Go.ChangeShapes Go.WideShapes Go.ChangeAt Go.RowKit
variable {H : Type} {enc : TypeId × Value → H}
end Go.Proofs.YtddnmocoaahlfaaGreatDoor
namespace Go.Proofs.YtddnmocoaahlfaaGreatDoor
open Go.RowKit
def dig10 (u : Nat) : List UInt8 := if u = 0 then [] else Lib.decDigits u
theorem dig10_step {u : Nat} (h : u ≠ 0) : dig10 u = dig10 (u / 10) ++ [UInt8.ofNat (48 + u % 10)] := by
  unfold dig10
  rw [if_neg h, Lib.decDigits]
  split
  · rw [if_pos (by omega)]
    rw [Nat.mod_eq_of_lt (by assumption)]; rfl
  · rw [if_neg (by omega)]
def dig10s : ByteArray := ⟨#[48, 49, 50, 51, 52, 53, 54, 55, 56, 57]⟩
theorem dig10s_cut : ∀ i : Fin 10, txt (dig10s.extract i.val (i.val + 1)) = [UInt8.ofNat (48 + i.val)] := by decide +kernel
theorem dig10_len {u : Nat} (h : u ≤ 9223372036854775808) : (dig10 u).length ≤ 20 := by
  unfold dig10
  split
  · simp
  · rw [Lib.decDigits_length]; exact Lib.nDigits_le20 u (by omega)
theorem cat9 {a b : ByteArray} (h : a.size + b.size ≤ 9223372036854775807) : Op.stringOp .add a b = pure (.string (a ++ b)) := by
  unfold Op.stringOp
  exact if_neg (show ¬ (((a.size + b.size : Nat) : Int) > 9223372036854775807) by omega)
theorem txt_append9 (a b : ByteArray) : txt (a ++ b) = txt a ++ txt b := by simp
theorem itoa_dig {n : Int} (h : n ≠ 0) : Lib.itoa n = if n < 0 then 45 :: dig10 n.natAbs else dig10 n.natAbs := by
  have hz : dig10 n.natAbs = Lib.decDigits n.natAbs := by unfold dig10; rw [if_neg (by omega)]
  rw [hz]
  unfold Lib.itoa
  split
  · rfl
  · rw [show n.toNat = n.natAbs by omega]
theorem number_any {n : Int} (hn : I64 n) (w : World) : Calls Tryz.prog 33 #[.int .i64 n] w fun e w' => ∃ s : ByteArray, e = .returned (.string s) ∧ txt s = Lib.itoa n ∧ w' = w := by
  have hn1 := hn.1
  have hn2 := hn.2
  by_cases h0 : n = 0
  · subst h0
    go_enter Tryz.func33, Tryz.ntmps33
    go_wp2_with fail
    go_ret
    exact ⟨_, rfl, by rw [Lib.itoa, if_neg (by decide), show (0 : Int).toNat = 0 from rfl, Lib.decDigits, dif_pos (by decide)]; rfl, rfl⟩
  · have z0 : (n == 0) = false := by simpa using h0
    go_enter Tryz.func33, Tryz.ntmps33
    go_wp2_with fail
    go_loop [4, 3] (fun t v => ∃ (x : Int) (sp : ByteArray), t = .int .i64 x ∧ v = .string sp ∧ I64 x ∧ (0 < n → 0 ≤ x) ∧ (n < 0 → x ≤ 0) ∧ dig10 x.natAbs ++ txt sp = dig10 n.natAbs) (fun t v => (intOf t).natAbs)
    case atStart => exact ⟨n, _, rfl, rfl, hn, fun h => by omega, fun h => by omega, by simp⟩
    case round =>
      obtain ⟨x, sp, rfl, rfl, hx, hp, hm, hsp⟩ := hrel
      have HSP := Lib.hid hsp
      clear hsp
      by_cases hx0 : x = 0
      · have z1 : (x != 0) = false := by simp [hx0]
        have hfin : txt sp = dig10 n.natAbs := by have := HSP.out; rw [hx0] at this; simpa [dig10] using this
        have HF := Lib.hid hfin
        clear hfin
        have hsz : sp.size ≤ 20 := by
          have : (txt sp).length = sp.size := by simp
          rw [← this, HF.out]; exact dig10_len (by omega)
        by_cases hneg : n < 0
        · have dn : decide (n < 0) = true := decide_eq_true hneg
          have hc := cat9 (a := ⟨#[45]⟩) (b := sp) (by have : (⟨#[45]⟩ : ByteArray).size = 1 := rfl; omega)
          go_wp2_with fail
          go_ret
          refine ⟨_, rfl, ?_, rfl⟩
          rw [itoa_dig h0, if_pos hneg, ← HF.out]; simp
        · have dn : decide (n < 0) = false := decide_eq_false hneg
          go_wp2_with fail
          go_ret
          refine ⟨_, rfl, ?_, rfl⟩
          rw [itoa_dig h0, if_neg (by omega), ← HF.out]
      · have z1 : (x != 0) = true := by simp [hx0]
        have hst := HSP.out
        rw [dig10_step (by omega)] at hst
        have HST := Lib.hid hst
        have hsz : sp.size ≤ 20 := by
          have h1 : (txt sp).length = sp.size := by simp
          have h2 := congrArg List.length HSP.out
          rw [List.length_append] at h2
          have := dig10_len (u := n.natAbs) (by omega)
          omega
        clear hst
        obtain ⟨u, hu⟩ : ∃ u : Nat, x.natAbs = u := ⟨_, rfl⟩
        have hcut : txt (dig10s.extract (u % 10) (u % 10 + 1)) = [UInt8.ofNat (48 + u % 10)] := dig10s_cut ⟨u % 10, Nat.mod_lt _ (by decide)⟩
        have hcs : (dig10s.extract (u % 10) (u % 10 + 1)).size = 1 := by
          have : (txt (dig10s.extract (u % 10) (u % 10 + 1))).length = (dig10s.extract (u % 10) (u % 10 + 1)).size := by simp
          rw [← this, hcut]; rfl
        have hc := cat9 (a := dig10s.extract (u % 10) (u % 10 + 1)) (b := sp) (by omega)
        have hu64 : u ≤ 9223372036854775808 := by have := hx.1; have := hx.2; omega
        have hend : dig10 (u / 10) ++ txt (dig10s.extract (u % 10) (u % 10 + 1) ++ sp) = dig10 n.natAbs := by
          rw [← HST.out, hu, txt_append9, hcut, List.append_assoc]
        unfold dig10s at hc hend
        have HE := Lib.hid hend
        clear hend hcut hcs HST HSP
        by_cases hs : x < 0
        · obtain rfl : x = -(u : Int) := by omega
          by_cases hd : u % 10 = 0
          · have hz : -((u : Int) % 10) = ((u % 10 : Nat) : Int) := by omega
            go_wp2_with fail
            have he := HE.out
            rw [hd] at he
            refine ⟨⟨-((u / 10 : Nat) : Int), _, congrArg (fun y => Value.int .i64 (-y)) (show (u : Int) / 10 = ((u / 10 : Nat) : Int) by omega), rfl, ⟨by omega, by omega⟩, fun h => by have := hp h; omega, fun _ => by omega, ?_⟩, by simp only [intOf]; omega⟩
            rw [Int.natAbs_neg]; exact he
          · go_wp2_with fail
            refine ⟨⟨-((u / 10 : Nat) : Int), _, congrArg (fun y => Value.int .i64 (-y)) (show (u : Int) / 10 = ((u / 10 : Nat) : Int) by omega), rfl, ⟨by omega, by omega⟩, fun h => by have := hp h; omega, fun _ => by omega, ?_⟩, by simp only [intOf]; omega⟩
            rw [Int.natAbs_neg]; exact HE.out
        · obtain rfl : x = (u : Int) := by omega
          go_wp2_with fail
          refine ⟨⟨((u / 10 : Nat) : Int), _, congrArg _ (show (u : Int) / 10 = ((u / 10 : Nat) : Int) by omega), rfl, ⟨by omega, by omega⟩, fun _ => by omega, fun h => by have := hm h; omega, ?_⟩, by simp only [intOf]; omega⟩
          exact HE.out
end Go.Proofs.YtddnmocoaahlfaaGreatDoor
namespace Go.Proofs.YtddnmocoaahlfaaGreatDoor
open Go.Lib
structure Pl where
  alphabet : List UInt8
  length : Int
  banned : List (List UInt8)
  check : Bool
  rows : Int
  cols : Int
  ream : Int
  bundle : Int
  down : Bool
  reprint : Int
  star : Int
  open_ : Int
  sheets : Int
  presses : Int
  life : Int
  plates : Int
  dry : Int
  vaults : Int
  blocks : Int
deriving Repr, DecidableEq
def Pl.ints (p : Pl) : List Int := [p.length, p.rows, p.cols, p.ream, p.bundle, p.reprint, p.star, p.open_, p.sheets, p.presses, p.life, p.plates, p.dry, p.vaults, p.blocks]
end Go.Proofs.YtddnmocoaahlfaaGreatDoor
namespace Go.Proofs.YtddnmocoaahlfaaGreatDoor
open Go.ChangeShapes Go.WideShapes Go.ChangeAt Go.RowKit
structure PV where
  al : ByteArray
  ln : Int
  ck : Bool
  rows : Int
  cols : Int
  ream : Int
  bundle : Int
  dn : Bool
  reprint : Int
  star : Int
  opn : Int
  sheets : Int
  presses : Int
  life : Int
  plates : Int
  dry : Int
  vaults : Int
  blocks : Int
abbrev PV.cells (p : PV) (bv : Value) : Array Value := #[.string p.al, .int .i64 p.ln, bv, .bool p.ck, .int .i64 p.rows, .int .i64 p.cols, .int .i64 p.ream, .int .i64 p.bundle, .bool p.dn, .int .i64 p.reprint, .int .i64 p.star, .int .i64 p.opn, .int .i64 p.sheets, .int .i64 p.presses, .int .i64 p.life, .int .i64 p.plates, .int .i64 p.dry, .int .i64 p.vaults, .int .i64 p.blocks]
def PV.zero : PV := ⟨⟨#[]⟩, 0, false, 0, 0, 0, 0, false, 0, 0, 0, 0, 0, 0, 0, 0, 0, 0⟩
variable {H : Type} {enc : TypeId × Value → H}
end Go.Proofs.YtddnmocoaahlfaaGreatDoor
