/-
  The texts of lines: dec, join, numbers, Text. Conditions: the package-level variables hold what the program lays.
  Eval: the value of an expression for names and their values, or its error. Conditions: the bounds that it states.
  What the arguments of the laws are in memory: rows of ints, rows of strings, acts, events. No condition.
  What a plant is in memory, and as an argument of a law. No condition.
-/
import Derived.Test.YtddnmocoaahlfaaGreatDoorY17
import Derived.Test.YtddnmocoaahlfaaGreatDoorY13
import Derived.Test.YtddnmocoaahlfaaGreatDoorY23
import Derived.Lib.AppendIntMem
import Derived.Deep.Upon
import Derived.Test.YtddnmocoaahlfaaGreatDoorMach
import Derived.Test.YtddnmocoaahlfaaGreatDoorY15
import Derived.StillTailTactics
import Derived.Laws.EntriesVeiled
import Derived.Deep.WholeRow
import Derived.ProofKit
import Derived.Lib.SmallJoins
set_option linter.unusedVariables false
set_option linter.unusedSimpArgs false

namespace Go.Proofs.YtddnmocoaahlfaaGreatDoor
open Go.RowKit Go.Shelf
def ErrS (w : World) : Prop := ∃ ev, w.cell? ⟨5, 0, none⟩ = some ev ∧ (ev = .nilIface ∨ ∃ te pe, ev = .iface te pe)
theorem ErrS.below {w w' : World} (h : ErrS w) (b : Below w.heap.size w w') : ErrS w' := let ⟨ev, h1, h2⟩ := h; ⟨ev, cell_below h1 b, h2⟩
/-- The cells of the form of a kind of event. -/
def evV (f : List UInt8 × Nat × Bool) : List Value := [.string ⟨f.1.toArray⟩, .int .i64 f.2.1, .bool f.2.2]
def Evs (w : World) : Prop := 1 < w.heap.size ∧ ∀ j, j < 25 → ∀ i v, (evV evWords[j]!)[i]? = some v → w.cell? ⟨1, 0 + j * 3 + i, none⟩ = some v
theorem Evs.below {w w' : World} (h : Evs w) (b : Below w.heap.size w w') : Evs w' := ⟨Nat.lt_of_lt_of_le h.1 b.size, fun j hj i v hv => cell_below (h.2 j hj i v hv) b⟩
abbrev Tab7 (w : World) : Prop := Lib.TabIs Tryz.prog w "internal/strconv.uint64pow10" .u64 Lib.pow10Tab
theorem g7 : Tryz.prog.globalNamed "internal/strconv.uint64pow10" = some 7 := by kernel_rfl
theorem tab_below {w w' : World} (h : Tab7 w) (b : Below w.heap.size w w') : Tab7 w' := by
  unfold Tab7 Lib.TabIs World.var? at *
  rw [g7] at *
  simp only [Option.bind_some] at *
  have h7 : 7 < w.heap.size := by
    rcases Nat.lt_or_ge 7 w.heap.size with hl | hl
    · exact hl
    · rw [Array.getElem?_eq_none hl] at h; cases h
  rw [b.block 7 h7]
  exact h
/-- What the laws ask of the package-level variables. -/
structure Env (w : World) : Prop where
  acts : Acts w
  maxv : MaxV w
  errR : ErrR w
  errS : ErrS w
  tab : Tab7 w
theorem Env.below {w w' : World} (h : Env w) (b : Below w.heap.size w w') : Env w' := ⟨h.acts.below b, h.maxv.below b, h.errR.below b, h.errS.below b, tab_below h.tab b⟩
/-- It returns this text. -/
def RetStr (w : World) (t : List UInt8) (e : Ending) (w' : World) : Prop := Below w.heap.size w w' ∧ ∃ s : ByteArray, e = .returned (.string s) ∧ txt s = t
theorem dec_any {w : World} (ht : Tab7 w) {n : Int} (hn : I64 n) : Calls Tryz.prog 76 #[.int .i64 n] w (RetStr w (Lib.itoa n)) := by
  have H := Lib.hid (Tryz.strconv_Itoa n hn.1 hn.2 w ht)
  go_enter Tryz.func76, Tryz.ntmps76
  go_wp2_with fail
  refine H.out.mono ?_
  rintro e w' ⟨rfl, k, os, rfl⟩
  go_wp2_with fail
  go_ret
  exact ⟨Lib.below_grow _ w (Nat.le_refl _) k os, _, rfl, rfl⟩
theorem src_zero {t : TypeId} {e : TypeId} (ht : Tryz.prog.underlying t = some (.slice e)) (size : Nat) (ma : Option Addr) (mc : Nat) (w : World) : Src Tryz.prog size t (.slice ma 0 mc) 0 [] w := by
  refine ⟨.inl ⟨e, ht⟩, fun w' => rfl, ?_, ?_, by simp, fun u hu => by cases hu⟩
  · cases ma <;> simp [Builtin.firstCells, loadCells, loadCellsFrom]
  · cases ma <;> simp [Builtin.firstCells, loadCells, loadCellsFrom]
theorem wpList_append_zero {w : World} {ops : Array Oper} {rest : List Oper} {o : Oper} {a : Act} {Q : Exit → Act → World → Prop} (hgd : o.guard = none) (s x : Operand) (t : TypeId)
    (ho : o.op = .call { callee := .builtin .append, args := #[s, x], argTypes := #[t, t] }) (e : TypeId) (i : TypeInfo) (ht : Tryz.prog.underlying t = some (.slice e)) (hi : Tryz.prog.info? e = some i)
    (b : Option Addr) (n c : Nat) (hs : a.eval s = .slice b n c) (hle : n ≤ c) (ma : Option Addr) (mc : Nat) (hx : a.eval x = .slice ma 0 mc)
    (h : wpList Tryz.prog ops Q rest (a.put o.dst (.slice b n c)) w) : wpList Tryz.prog ops Q (o :: rest) a w := by
  refine wpList_plain hgd fun K hK => ?_
  have hrun := run_append_nothing w t t o.type e i ht hi b n c hle _ (src_zero ht i.size ma mc w)
  unfold Oper.wp
  simp [execOp, ho, resolve, invoke, builtin, hs, hx, hrun, Result.andThen]
  exact hK _ _ h
/-- A slice of ints. -/
def NRow (w : World) (v : Value) (l : List Int) : Prop :=
  (l = [] ∧ ∃ a c, v = .slice a 0 c) ∨ (l ≠ [] ∧ ∃ L o c, v = .slice (some ⟨L, o, none⟩) l.length c ∧ l.length ≤ c ∧ ∀ j (h : j < l.length), w.cell? ⟨L, o + j, none⟩ = some (.int .i64 l[j]))
theorem NRow.below {w w' : World} {v : Value} {l : List Int} (h : NRow w v l) (b : Below w.heap.size w w') : NRow w' v l := by
  rcases h with h | ⟨h0, L, o, c, h1, h2, h3⟩
  · exact .inl h
  · exact .inr ⟨h0, L, o, c, h1, h2, fun j hj => cell_below (h3 j hj) b⟩
theorem NRow.form {w : World} {v : Value} {l : List Int} (h : NRow w v l) : ∃ a c, v = .slice a l.length c := by
  rcases h with ⟨rfl, a, c, rfl⟩ | ⟨_, L, o, c, rfl, _⟩
  · exact ⟨a, c, rfl⟩
  · exact ⟨_, c, rfl⟩
theorem join_eq (x : List UInt8) (r : List (List UInt8)) : Lib.join (x :: r) [32] = joinB 32 x r := by
  rw [Lib.join_cons]
  unfold Lib.joinTail joinB
  rw [List.flatMap_def]
  rfl
set_option maxRecDepth 100000 in
set_option maxHeartbeats 4000000 in
theorem join_any {w : World} (he : Tab7 w) {word : ByteArray} {v mv : Value} {l : List Int} {ms : List ByteArray} (hv : NRow w v l) (hi : ∀ n ∈ l, I64 n) (hm : SRow w mv ms) (hl : l.length ≤ 100000) (hml : ms.length ≤ 100000)
    (hbig : (joinB 32 (txt word) (l.map Lib.itoa ++ ms.map txt)).length ≤ 140737488355328) : Calls Tryz.prog 42 #[.string word, v, mv] w (RetStr w (joinB 32 (txt word) (l.map Lib.itoa ++ ms.map txt))) := by
  obtain ⟨i0, hi0, hz0, hz1, hz2⟩ := info_parts info9
  obtain ⟨w1, hw1⟩ : ∃ w1, w1 = w.alloc (.cells #[.string word] 9) := ⟨_, rfl⟩
  have b1 : Blk w1 w.heap.size #[.string word] 9 := by rw [hw1]; exact Blk.new w _ _
  have l1 : Below w.heap.size w w1 := by rw [hw1]; exact (Below.refl _ _).alloc (Nat.le_refl _) _
  have z1 : w1.heap.size = w.heap.size + 1 := by rw [hw1]; simp
  have r1 : w1.ownsRow w.heap.size 9 1 (.slice (some ⟨w.heap.size, 0, none⟩) 1 1) [word].length ([word].map Value.string) :=
    ⟨rfl, .inr ⟨w.heap.size, 1, #[.string word], rfl, Nat.le_refl _, b1, Nat.le_refl _, by unfold maxLen; omega, rfl, rfl⟩⟩
  obtain ⟨va, vc, rfl⟩ := hv.form
  have HV := Lib.hid hv
  have HM := Lib.hid hm
  have HI := Lib.hid hi
  have HB := Lib.hid hbig
  have HE := Lib.hid he
  have R1 := Lib.hid r1
  have L1 := Lib.hid l1
  clear hv hm hi hbig he r1 l1 b1 z1
  have hcell : ∀ k (hk : k < l.length), ∃ L o, va = some ⟨L, o, none⟩ ∧ w.cell? ⟨L, o + k, none⟩ = some (.int .i64 l[k]) := fun k hk => by
    rcases HV.out with ⟨rfl, _⟩ | ⟨_, L, o, c, h1, _, h3⟩
    · simp at hk
    · injection h1 with h1 _ _
      exact ⟨L, o, h1, h3 k hk⟩
  have HC := Lib.hid hcell
  clear hcell
  subst hw1
  go_enter Tryz.func42, Tryz.ntmps42
  go_wp2_with fail
  go_loopw [14, 7] (fun t v7 wr => ∃ (k : Nat) (ps : List ByteArray), t = .int .i64 k ∧ k ≤ l.length ∧ ps.length = k + 1 ∧ wr.ownsRow w.heap.size 9 1 v7 ps.length (ps.map Value.string) ∧ ps.map txt = txt word :: (l.take k).map Lib.itoa ∧ Below w.heap.size w wr) (fun t v7 wr => l.length - (intOf t).toNat)
  case atStart => exact ⟨0, [word], rfl, Nat.zero_le _, rfl, R1.out, rfl, L1.out⟩
  case round =>
    obtain ⟨k, ps, rfl, hk, hps, hown, htx, hbl⟩ := hrel
    have HT := Lib.hid htx
    have HPS := Lib.hid hps
    have hpl : ps.length ≤ 100001 := by omega
    have hpp : 0 < ps.length := by omega
    clear hps
    have HO := Lib.hid hown
    clear htx
    by_cases hlt : k < l.length
    · obtain ⟨L, o, rfl, hck⟩ := HC.out k hlt
      have ck := cell_below hck hbl
      have hin := HI.out l[k] (List.getElem_mem hlt)
      have htk : (l.take (k + 1)).map Lib.itoa = (l.take k).map Lib.itoa ++ [Lib.itoa l[k]] := by
        have : l.take (k + 1) = l.take k ++ [l[k]] := by rw [List.take_succ_eq_append_getElem hlt]
        rw [this, List.map_append]; rfl
      have HTK := Lib.hid htk
      generalize l[k] = n at *
      have HD := Lib.hid (dec_any (tab_below HE.out hbl) hin)
      have hszr := hbl.size
      clear htk hck hown
      go_wp2_with fail
      refine HD.out.mono ?_
      rintro e w2 ⟨b2, sx, rfl, hsx⟩
      have hown2 := row_stays (M := fun _ => False) HO.out (.of b2) (fun _ _ h => h)
      have hbl2 := hbl.trans (b2.mono hszr)
      have hsz2 := hbl2.size
      go_wp2_with (at_builtin; refine wpList_append_lies _ rfl _ _ 27 rfl w.heap.size 9 i0 (.string ⟨#[]⟩) 1 16 Tryz.underlying27 hi0 hz0 hz1 hz2 rfl (by decide) _ _ _ rfl (hown2.alloc _) ⟨w2.heap.size, 0, none⟩ 1 1 [.string sx] rfl rfl (one_new _ _ _) (by simp [Value.oneCell']) (by decide) (by unfold maxLen; omega) (by omega) (by simp; omega) _ rfl ?_; intro g cap2 w3 hown3 hgr hat hg2)
      have hbl3 : Below w.heap.size w w3 := (hbl2.alloc hsz2 _).grown hgr (by simp; omega) (fun j hj => (HO.out.lt j hj).1)
      go_wp2_with fail
      go_roundw
      case rel => exact ⟨k + 1, ps ++ [sx], by go_num, by omega, by simp [HPS.out], by simpa using hown3, by rw [List.map_append, HT.out, HTK.out]; simp [hsx], hbl3⟩
      case measure => simp [intOf]; omega
    · have hkl : l.take k = l := List.take_of_length_le (by omega)
      rw [hkl] at HT
      clear hkl
      rcases HM.out with ⟨rfl, ma, mc, rfl⟩ | ⟨hms0, L2, o2, c2, rfl, hmc, ⟨cur2, zz2, hblk2⟩, hmcell⟩
      · obtain ⟨g, cap, cur, hu, hg0, hgg, hnc, hcm, hsz, htk⟩ := hown.2.resolve_left (fun h => by omega)
        subst hu
        have hcells : ∀ (j : Nat) x, ps[j]? = some x → wr.cell? ⟨g, 0 + j, none⟩ = some (.string x) := fun j x hj => by
          obtain ⟨h1, h2⟩ := List.getElem?_eq_some_iff.1 hj
          have := row_get hown hpp j (by simpa using h1)
          rw [Nat.zero_add, this]
          simp [h2]
        have hjn : Lib.join (ps.map (·.data.toList)) [32] = joinB 32 (txt word) (l.map Lib.itoa ++ List.map txt []) := by
          rw [show ps.map (·.data.toList) = txt word :: l.map Lib.itoa from HT.out, join_eq]; simp
        have HJ := Lib.hid (Tryz.strings_Join g 0 cap ps ⟨#[32]⟩ wr hcells (Array.getElem?_eq_some_iff.1 hgg).1 (by omega) hnc (by show (Lib.join (ps.map (·.data.toList)) [32]).length ≤ _; rw [hjn]; exact HB.out))
        have HJN := Lib.hid hjn
        have hszr := hbl.size
        clear hjn hcells htk hown
        go_wp2_with (at_builtin; refine wpList_append_zero rfl _ _ 27 rfl 9 i0 Tryz.underlying27 hi0 _ _ _ rfl hnc _ _ rfl ?_)
        refine HJ.out.mono ?_
        rintro e w5 ⟨rfl, b5⟩
        go_wp2_with fail
        go_ret
        exact ⟨hbl.trans (b5.mono hszr), _, rfl, HJN.out⟩
      · have hml' : 0 < ms.length := List.length_pos_iff.2 hms0
        have hszr := hbl.size
        have hmc2 : ∀ j u, (ms.map Value.string)[j]? = some u → wr.cell? ((⟨L2, o2, none⟩ : Addr).add j) = some u := fun j u hj => by
          rw [List.getElem?_map] at hj
          cases hm : ms[j]? with
          | none => rw [hm] at hj; cases hj
          | some y =>
            rw [hm] at hj
            injection hj with hj
            subst hj
            obtain ⟨h1, h2⟩ := List.getElem?_eq_some_iff.1 hm
            have := cell_below (hmcell j h1) hbl
            rw [h2] at this
            rw [Addr.add_lit]
            exact this
        have HMC := Lib.hid hmc2
        clear hmc2 hmcell hblk2
        go_wp2_with (at_builtin; refine wpList_append_lies _ rfl _ _ 27 rfl w.heap.size 9 i0 (.string ⟨#[]⟩) 1 16 Tryz.underlying27 hi0 hz0 hz1 hz2 rfl (by decide) _ _ _ rfl hown ⟨L2, o2, none⟩ ms.length _ (ms.map Value.string) rfl (by simp) HMC.out (by intro u hu; obtain ⟨y, _, rfl⟩ := List.mem_map.1 hu; rfl) hml' (by unfold maxLen; omega) (by omega) (by omega) _ rfl ?_; intro g cap2 w3 hown3 hgr hat hg2)
        have hcells : ∀ (j : Nat) x, (ps ++ ms)[j]? = some x → w3.cell? ⟨g, 0 + j, none⟩ = some (.string x) := fun j x hj => by
          obtain ⟨h1, h2⟩ := List.getElem?_eq_some_iff.1 hj
          have h3 := row_get hown3 (by omega) j (by simp at h1 ⊢; omega)
          rw [Nat.zero_add, h3]
          have h4 : (ps.map Value.string ++ ms.map Value.string)[j]? = some (.string x) := by rw [← List.map_append, List.getElem?_map, hj]; rfl
          rw [List.getElem?_eq_getElem (by simp at h1 ⊢; omega)] at h4
          exact h4
        have hjn : Lib.join ((ps ++ ms).map (·.data.toList)) [32] = joinB 32 (txt word) (l.map Lib.itoa ++ ms.map txt) := by
          rw [List.map_append, show ps.map (·.data.toList) = txt word :: l.map Lib.itoa from HT.out, List.cons_append, join_eq]
        have hcap : ps.length + ms.length ≤ cap2 := by
          rcases hown3.2 with ⟨h, _⟩ | ⟨g', c', cur', hv', _, _, h, _⟩
          · cases h
          · injection hv' with _ _ h9; omega
        have hbl3 : Below w.heap.size w w3 := hbl.grown hgr hszr (fun j hj => (hown.lt j hj).1)
        have HJ := Tryz.strings_Join g 0 cap2 (ps ++ ms) ⟨#[32]⟩ w3 hcells hg2 (by simp; omega) (by simp; omega) (by show (Lib.join ((ps ++ ms).map (·.data.toList)) [32]).length ≤ _; rw [hjn]; exact HB.out)
        rw [List.length_append] at HJ
        refine HJ.mono ?_
        rintro e w5 ⟨rfl, b5⟩
        go_wp2_with fail
        go_ret
        exact ⟨hbl3.trans (b5.mono hbl3.size), _, rfl, by rw [← List.map_append]; exact hjn⟩
end Go.Proofs.YtddnmocoaahlfaaGreatDoor
namespace Go.Proofs.YtddnmocoaahlfaaGreatDoor
open Go.RowKit Go.Maps Go.WideMaps
theorem SRow.form {w : World} {v : Value} {ss : List ByteArray} (h : SRow w v ss) : ∃ a c, v = .slice a ss.length c := by
  rcases h with ⟨rfl, a, c, rfl⟩ | ⟨_, L, o, c, rfl, _⟩
  · exact ⟨a, c, rfl⟩
  · exact ⟨_, c, rfl⟩
/-- A row of strings, whatever block it lies in. -/
def SRw (w : World) (v : Value) (ss : List ByteArray) : Prop :=
  (ss = [] ∧ ∃ a c, v = .slice a 0 c) ∨ (ss ≠ [] ∧ ∃ L o c, v = .slice (some ⟨L, o, none⟩) ss.length c ∧ ss.length ≤ c ∧ ∀ j (h : j < ss.length), w.cell? ⟨L, o + j, none⟩ = some (.string ss[j]))
theorem SRow.rw {w : World} {v : Value} {ss : List ByteArray} (h : SRow w v ss) : SRw w v ss := by
  rcases h with h | ⟨h0, L, o, c, h1, h2, _, h3⟩
  · exact .inl h
  · exact .inr ⟨h0, L, o, c, h1, h2, h3⟩
theorem SRw.below {w w' : World} {v : Value} {ss : List ByteArray} (h : SRw w v ss) (b : Below w.heap.size w w') : SRw w' v ss := by
  rcases h with h | ⟨h0, L, o, c, h1, h2, h3⟩
  · exact .inl h
  · exact .inr ⟨h0, L, o, c, h1, h2, fun j hj => cell_below (h3 j hj) b⟩
theorem SRw.form {w : World} {v : Value} {ss : List ByteArray} (h : SRw w v ss) : ∃ a c, v = .slice a ss.length c := by
  rcases h with ⟨rfl, a, c, rfl⟩ | ⟨_, L, o, c, rfl, _⟩
  · exact ⟨a, c, rfl⟩
  · exact ⟨_, c, rfl⟩
end Go.Proofs.YtddnmocoaahlfaaGreatDoor
namespace Go.Proofs.YtddnmocoaahlfaaGreatDoor
open Go.ChangeShapes Go.WideShapes Go.ChangeAt Go.RowKit
variable {H : Type} {enc : TypeId × Value → H}
end Go.Proofs.YtddnmocoaahlfaaGreatDoor
namespace Go.Proofs.YtddnmocoaahlfaaGreatDoor
open Go.ChangeShapes Go.WideShapes Go.ChangeAt Go.RowKit
/-- The plain cells of a plant: all but the row of banned strings. -/
structure PV where
  al : ByteArray
  ln : Int
  ck : Bool
  rows : Int
  cols : Int
  ream : Int
  bundle : Int
  dn : Bool
  reprint : Int
  star : Int
  opn : Int
  sheets : Int
  presses : Int
  life : Int
  plates : Int
  dry : Int
  vaults : Int
  blocks : Int
/-- A plant's cells. -/
abbrev PV.cells (p : PV) (bv : Value) : Array Value := #[.string p.al, .int .i64 p.ln, bv, .bool p.ck, .int .i64 p.rows, .int .i64 p.cols, .int .i64 p.ream, .int .i64 p.bundle, .bool p.dn, .int .i64 p.reprint, .int .i64 p.star, .int .i64 p.opn, .int .i64 p.sheets, .int .i64 p.presses, .int .i64 p.life, .int .i64 p.plates, .int .i64 p.dry, .int .i64 p.vaults, .int .i64 p.blocks]
/-- The plant of the cells and of the banned strings. -/
def PV.pl (p : PV) (bs : List (List UInt8)) : Pl := ⟨txt p.al, p.ln, bs, p.ck, p.rows, p.cols, p.ream, p.bundle, p.dn, p.reprint, p.star, p.opn, p.sheets, p.presses, p.life, p.plates, p.dry, p.vaults, p.blocks⟩
def PV.zero : PV := ⟨⟨#[]⟩, 0, false, 0, 0, 0, 0, false, 0, 0, 0, 0, 0, 0, 0, 0, 0, 0⟩
theorem PV.pl_inj {p q : PV} {bs cs : List (List UInt8)} (h : p.pl bs = q.pl cs) : p = q ∧ bs = cs := by
  obtain ⟨a1, a2, a3, a4, a5, a6, a7, a8, a9, a10, a11, a12, a13, a14, a15, a16, a17, a18⟩ := p
  obtain ⟨b1, b2, b3, b4, b5, b6, b7, b8, b9, b10, b11, b12, b13, b14, b15, b16, b17, b18⟩ := q
  unfold PV.pl at h
  simp only [Pl.mk.injEq] at h
  obtain ⟨h1, rfl, rfl, rfl, rfl, rfl, rfl, rfl, rfl, rfl, rfl, rfl, rfl, rfl, rfl, rfl, rfl, rfl, rfl⟩ := h
  have : a1 = b1 := by
    have h2 : a1.data = b1.data := Array.toList_inj.1 h1
    cases a1; cases b1; simp only at h2; rw [h2]
  subst this
  exact ⟨rfl, rfl⟩
variable {H : Type} {enc : TypeId × Value → H}
end Go.Proofs.YtddnmocoaahlfaaGreatDoor
