/-
  The reference's line of numbers, and the law's own look at a plant's strings. Conditions: the bounds that each states.
  join, where the further words lie in whatever block. Conditions: the package-level variables hold what the program lays.
  A region that draws its order, each operation of which says of its value what later operations keep: whatever the order, all is said at the end. No condition.
  What the operations of such a region say of their values: addresses, loads, rows that are written out, calls that return texts, texts put together. No condition.
  PlantText. Conditions: the package-level variables hold what the program lays; few and short strings; the numbers are ints.
-/
import Derived.Test.YtddnmocoaahlfaaGreatDoorZr
import Derived.Test.YtddnmocoaahlfaaGreatDoorOpnP
import Derived.Test.YtddnmocoaahlfaaGreatDoorY3
import Derived.Test.YtddnmocoaahlfaaGreatDoorLine2
import Derived.OrdersHeld
import Derived.Test.YtddnmocoaahlfaaGreatDoorY8
import Derived.Deep.DeepCutAuto
set_option linter.unusedVariables false
set_option linter.unusedSimpArgs false

namespace Go.Proofs.YtddnmocoaahlfaaGreatDoor
open Go.RowKit Go.Shelf
/-- The bytes of strings, together. -/
def bytesOf (al : ByteArray) (ss : List ByteArray) : Nat := al.size + (ss.map (·.size)).sum
/-- The bytes of strings, each counted up to 5000. -/
def capSum : List ByteArray → Nat
  | [] => 0
  | s :: ss => min s.size 5000 + capSum ss
theorem capSum_le : ∀ ss : List ByteArray, capSum ss ≤ 5000 * ss.length
  | [] => Nat.le_refl _
  | s :: ss => by have := capSum_le ss; have := Nat.min_le_right s.size 5000; simp only [capSum, List.length_cons]; omega
theorem capSum_snoc : ∀ (ss : List ByteArray) (s : ByteArray), capSum (ss ++ [s]) = capSum ss + min s.size 5000
  | [], s => by simp [capSum]
  | a :: ss, s => by simp only [List.cons_append, capSum, capSum_snoc ss s]; omega
theorem capSum_small : ∀ ss : List ByteArray, capSum ss ≤ 4000 → (ss.map (·.size)).sum = capSum ss
  | [], _ => rfl
  | s :: ss, h => by
    simp only [capSum] at h
    have h2 := capSum_small ss (by omega)
    simp only [List.map_cons, List.sum_cons, capSum, h2]
    have : min s.size 5000 = s.size := by omega
    omega
/-- What the law's look at a plant says. -/
def RetFew (w : World) (al : ByteArray) (ss : List ByteArray) (e : Ending) (w' : World) : Prop := Below w.heap.size w w' ∧ ∃ b : Bool, e = .returned (.bool b) ∧ (b = true → ss.length ≤ 100 ∧ bytesOf al ss ≤ 4000)
theorem few_done {al : ByteArray} {ss : List ByteArray} (h1 : ss.length ≤ 100) (h2 : min al.size 5000 + capSum ss ≤ 4000) : ss.length ≤ 100 ∧ bytesOf al ss ≤ 4000 := by
  refine ⟨h1, ?_⟩
  unfold bytesOf
  rw [capSum_small ss (by omega)]
  omega
set_option maxRecDepth 100000 in
set_option maxHeartbeats 4000000 in
theorem few_any {w : World} {q : PV} {p : Option Addr} {n c : Nat} {ss : List ByteArray} (hs : SRw w (.slice p n c) ss) (hn : ss.length = n) (hm : n ≤ maxLen) : Calls Tryz.prog 18 #[.agg (q.cells (.slice p n c))] w (RetFew w q.al ss) := by
  have hm' : n ≤ 9223372036854775807 := by unfold maxLen at hm; omega
  obtain ⟨w1, hw1⟩ : ∃ w1, w1 = w.alloc (.cells (q.cells (.slice p n c)) 35) := ⟨_, rfl⟩
  have l1 : Below w.heap.size w w1 := by rw [hw1]; exact (Below.refl _ _).alloc (Nat.le_refl _) _
  have B1 : Blk w1 w.heap.size (q.cells (.slice p n c)) 35 := by rw [hw1]; exact Blk.new w _ _
  have y0 : w1.cell? ⟨w.heap.size, 0, none⟩ = some (.string q.al) := (B1.cell 0).trans rfl
  have y2 : w1.cell? ⟨w.heap.size, 2, none⟩ = some (.slice p n c) := (B1.cell 2).trans rfl
  obtain ⟨M, hM⟩ : ∃ M, M = min q.al.size 5000 := ⟨_, rfl⟩
  have hmin : min (q.al.size : Int) 5000 = (M : Int) := by omega
  have hM5 : M ≤ 5000 := by omega
  have HW := Lib.hid hw1
  have HS := Lib.hid (hs.below l1)
  have HN := Lib.hid hn
  have HM := Lib.hid hM
  clear hw1 hs hn hM B1
  go_enter Tryz.func18, Tryz.ntmps18
  go_upto_region 1 with fail
  rw [← HW.out]
  go_wp2_with fail
  go_loop [4, 3] (fun t v => ∃ i : Nat, t = .int .i64 i ∧ i ≤ n ∧ i ≤ 100 ∧ v = .int .i64 ((M + capSum (ss.take i) : Nat) : Int)) (fun t v => n - (intOf t).toNat)
  case atStart => exact ⟨0, rfl, Nat.zero_le _, by decide, rfl⟩
  case round =>
    obtain ⟨i, rfl, hin, hi100, rfl⟩ := hrel
    have hcs := capSum_le (ss.take i)
    have htl : (ss.take i).length ≤ 100 := by rw [List.length_take]; omega
    obtain ⟨C, hC⟩ : ∃ C, C = capSum (ss.take i) := ⟨_, rfl⟩
    rw [← hC] at hcs ⊢
    have hC5 : C ≤ 500000 := by omega
    clear hcs htl
    by_cases hlt : i < n
    · have dl : decide ((i : Int) < (n : Int)) = true := decide_eq_true (by omega)
      by_cases h1 : i < 100
      · have d1 : decide ((i : Int) < 100) = true := decide_eq_true (by omega)
        have hlen : i < ss.length := by rw [HN.out]; exact hlt
        obtain ⟨L, o, rfl, hci⟩ := srw_get HS.out hlen
        have hsn : capSum (ss.take (i + 1)) = C + min ss[i].size 5000 := by rw [List.take_succ_eq_append_getElem hlen, capSum_snoc, hC]
        obtain ⟨x, hx⟩ : ∃ x, x = ss[i] := ⟨_, rfl⟩
        rw [← hx] at hci hsn
        obtain ⟨m, hm2⟩ : ∃ m, m = min x.size 5000 := ⟨_, rfl⟩
        have hmin2 : min (x.size : Int) 5000 = (m : Int) := by omega
        have hm5 : m ≤ 5000 := by omega
        rw [← hm2] at hsn
        have HSN := Lib.hid hsn
        clear hx hm2 hsn hC
        go_wp2_with fail
        go_round
        case rel => exact ⟨i + 1, by go_num, by omega, by omega, by rw [HSN.out]; go_num⟩
        case measure => simp [intOf]; omega
      · have d1 : decide ((i : Int) < 100) = false := decide_eq_false (by omega)
        have hi : i = 100 := by omega
        have hgt : ¬ n ≤ 100 := by omega
        have d2 : decide ((n : Int) ≤ 100) = false := decide_eq_false (by omega)
        clear h1 hC hi
        go_wp2_with fail
        go_ret
        exact ⟨l1, false, rfl, fun h => by cases h⟩
    · have hi : i = n := by omega
      subst hi
      have dl : decide ((i : Int) < (i : Int)) = false := decide_eq_false (by omega)
      have d2 : decide ((i : Int) ≤ 100) = true := decide_eq_true (by omega)
      have hCC : C = capSum ss := by rw [hC, List.take_of_length_le (by rw [HN.out]; exact Nat.le_refl _)]
      by_cases h4 : M + C ≤ 4000
      · have d3 : decide ((M : Int) + (C : Int) ≤ 4000) = true := decide_eq_true (by omega)
        have hf := few_done (al := q.al) (ss := ss) (by rw [HN.out]; omega) (by rw [← HM.out, ← hCC]; exact h4)
        have HF := Lib.hid hf
        clear hC hCC hf
        go_wp2_with fail
        go_ret
        exact ⟨l1, true, rfl, fun _ => HF.out⟩
      · have d3 : decide ((M : Int) + (C : Int) ≤ 4000) = false := decide_eq_false (by omega)
        clear hC hCC
        go_wp2_with fail
        go_ret
        exact ⟨l1, false, rfl, fun h => by cases h⟩
end Go.Proofs.YtddnmocoaahlfaaGreatDoor
namespace Go.Proofs.YtddnmocoaahlfaaGreatDoor
open Go.RowKit Go.Shelf
set_option maxRecDepth 100000 in
set_option maxHeartbeats 4000000 in
theorem joinW_any {w : World} (he : Tab7 w) {word : ByteArray} {v mv : Value} {l : List Int} {ms : List ByteArray} (hv : NRow w v l) (hi : ∀ n ∈ l, I64 n) (hm : SRw w mv ms) (hl : l.length ≤ 100000) (hml : ms.length ≤ 100000)
    (hbig : (joinB 32 (txt word) (l.map Lib.itoa ++ ms.map txt)).length ≤ 140737488355328) : Calls Tryz.prog 42 #[.string word, v, mv] w (RetStr w (joinB 32 (txt word) (l.map Lib.itoa ++ ms.map txt))) := by
  obtain ⟨i0, hi0, hz0, hz1, hz2⟩ := info_parts info9
  obtain ⟨w1, hw1⟩ : ∃ w1, w1 = w.alloc (.cells #[.string word] 9) := ⟨_, rfl⟩
  have b1 : Blk w1 w.heap.size #[.string word] 9 := by rw [hw1]; exact Blk.new w _ _
  have l1 : Below w.heap.size w w1 := by rw [hw1]; exact (Below.refl _ _).alloc (Nat.le_refl _) _
  have z1 : w1.heap.size = w.heap.size + 1 := by rw [hw1]; simp
  have r1 : w1.ownsRow w.heap.size 9 1 (.slice (some ⟨w.heap.size, 0, none⟩) 1 1) [word].length ([word].map Value.string) :=
    ⟨rfl, .inr ⟨w.heap.size, 1, #[.string word], rfl, Nat.le_refl _, b1, Nat.le_refl _, by unfold maxLen; omega, rfl, rfl⟩⟩
  obtain ⟨va, vc, rfl⟩ := hv.form
  have HV := Lib.hid hv
  have HM := Lib.hid hm
  have HI := Lib.hid hi
  have HB := Lib.hid hbig
  have HE := Lib.hid he
  have R1 := Lib.hid r1
  have L1 := Lib.hid l1
  clear hv hm hi hbig he r1 l1 b1 z1
  have hcell : ∀ k (hk : k < l.length), ∃ L o, va = some ⟨L, o, none⟩ ∧ w.cell? ⟨L, o + k, none⟩ = some (.int .i64 l[k]) := fun k hk => by
    rcases HV.out with ⟨rfl, _⟩ | ⟨_, L, o, c, h1, _, h3⟩
    · simp at hk
    · injection h1 with h1 _ _
      exact ⟨L, o, h1, h3 k hk⟩
  have HC := Lib.hid hcell
  clear hcell
  subst hw1
  go_enter Tryz.func42, Tryz.ntmps42
  go_wp2_with fail
  go_loopw [14, 7] (fun t v7 wr => ∃ (k : Nat) (ps : List ByteArray), t = .int .i64 k ∧ k ≤ l.length ∧ ps.length = k + 1 ∧ wr.ownsRow w.heap.size 9 1 v7 ps.length (ps.map Value.string) ∧ ps.map txt = txt word :: (l.take k).map Lib.itoa ∧ Below w.heap.size w wr) (fun t v7 wr => l.length - (intOf t).toNat)
  case atStart => exact ⟨0, [word], rfl, Nat.zero_le _, rfl, R1.out, rfl, L1.out⟩
  case round =>
    obtain ⟨k, ps, rfl, hk, hps, hown, htx, hbl⟩ := hrel
    have HT := Lib.hid htx
    have HPS := Lib.hid hps
    have hpl : ps.length ≤ 100001 := by omega
    have hpp : 0 < ps.length := by omega
    clear hps
    have HO := Lib.hid hown
    clear htx
    by_cases hlt : k < l.length
    · obtain ⟨L, o, rfl, hck⟩ := HC.out k hlt
      have ck := cell_below hck hbl
      have hin := HI.out l[k] (List.getElem_mem hlt)
      have htk : (l.take (k + 1)).map Lib.itoa = (l.take k).map Lib.itoa ++ [Lib.itoa l[k]] := by
        have : l.take (k + 1) = l.take k ++ [l[k]] := by rw [List.take_succ_eq_append_getElem hlt]
        rw [this, List.map_append]; rfl
      have HTK := Lib.hid htk
      generalize l[k] = n at *
      have HD := Lib.hid (dec_any (tab_below HE.out hbl) hin)
      have hszr := hbl.size
      clear htk hck hown
      go_wp2_with fail
      refine HD.out.mono ?_
      rintro e w2 ⟨b2, sx, rfl, hsx⟩
      have hown2 := row_stays (M := fun _ => False) HO.out (.of b2) (fun _ _ h => h)
      have hbl2 := hbl.trans (b2.mono hszr)
      have hsz2 := hbl2.size
      go_wp2_with (at_builtin; refine wpList_append_lies _ rfl _ _ 27 rfl w.heap.size 9 i0 (.string ⟨#[]⟩) 1 16 Tryz.underlying27 hi0 hz0 hz1 hz2 rfl (by decide) _ _ _ rfl (hown2.alloc _) ⟨w2.heap.size, 0, none⟩ 1 1 [.string sx] rfl rfl (one_new _ _ _) (by simp [Value.oneCell']) (by decide) (by unfold maxLen; omega) (by omega) (by simp; omega) _ rfl ?_; intro g cap2 w3 hown3 hgr hat hg2)
      have hbl3 : Below w.heap.size w w3 := (hbl2.alloc hsz2 _).grown hgr (by simp; omega) (fun j hj => (HO.out.lt j hj).1)
      go_wp2_with fail
      go_roundw
      case rel => exact ⟨k + 1, ps ++ [sx], by go_num, by omega, by simp [HPS.out], by simpa using hown3, by rw [List.map_append, HT.out, HTK.out]; simp [hsx], hbl3⟩
      case measure => simp [intOf]; omega
    · have hkl : l.take k = l := List.take_of_length_le (by omega)
      rw [hkl] at HT
      clear hkl
      rcases HM.out with ⟨rfl, ma, mc, rfl⟩ | ⟨hms0, L2, o2, c2, rfl, hmc, hmcell⟩
      · obtain ⟨g, cap, cur, hu, hg0, hgg, hnc, hcm, hsz, htk⟩ := hown.2.resolve_left (fun h => by omega)
        subst hu
        have hcells : ∀ (j : Nat) x, ps[j]? = some x → wr.cell? ⟨g, 0 + j, none⟩ = some (.string x) := fun j x hj => by
          obtain ⟨h1, h2⟩ := List.getElem?_eq_some_iff.1 hj
          have := row_get hown hpp j (by simpa using h1)
          rw [Nat.zero_add, this]
          simp [h2]
        have hjn : Lib.join (ps.map (·.data.toList)) [32] = joinB 32 (txt word) (l.map Lib.itoa ++ List.map txt []) := by
          rw [show ps.map (·.data.toList) = txt word :: l.map Lib.itoa from HT.out, join_eq]; simp
        have HJ := Lib.hid (Tryz.strings_Join g 0 cap ps ⟨#[32]⟩ wr hcells (Array.getElem?_eq_some_iff.1 hgg).1 (by omega) hnc (by show (Lib.join (ps.map (·.data.toList)) [32]).length ≤ _; rw [hjn]; exact HB.out))
        have HJN := Lib.hid hjn
        have hszr := hbl.size
        clear hjn hcells htk hown
        go_wp2_with (at_builtin; refine wpList_append_zero rfl _ _ 27 rfl 9 i0 Tryz.underlying27 hi0 _ _ _ rfl hnc _ _ rfl ?_)
        refine HJ.out.mono ?_
        rintro e w5 ⟨rfl, b5⟩
        go_wp2_with fail
        go_ret
        exact ⟨hbl.trans (b5.mono hszr), _, rfl, HJN.out⟩
      · have hml' : 0 < ms.length := List.length_pos_iff.2 hms0
        have hszr := hbl.size
        have hmc2 : ∀ j u, (ms.map Value.string)[j]? = some u → wr.cell? ((⟨L2, o2, none⟩ : Addr).add j) = some u := fun j u hj => by
          rw [List.getElem?_map] at hj
          cases hm : ms[j]? with
          | none => rw [hm] at hj; cases hj
          | some y =>
            rw [hm] at hj
            injection hj with hj
            subst hj
            obtain ⟨h1, h2⟩ := List.getElem?_eq_some_iff.1 hm
            have := cell_below (hmcell j h1) hbl
            rw [h2] at this
            rw [Addr.add_lit]
            exact this
        have HMC := Lib.hid hmc2
        clear hmc2 hmcell
        go_wp2_with (at_builtin; refine wpList_append_lies _ rfl _ _ 27 rfl w.heap.size 9 i0 (.string ⟨#[]⟩) 1 16 Tryz.underlying27 hi0 hz0 hz1 hz2 rfl (by decide) _ _ _ rfl hown ⟨L2, o2, none⟩ ms.length _ (ms.map Value.string) rfl (by simp) HMC.out (by intro u hu; obtain ⟨y, _, rfl⟩ := List.mem_map.1 hu; rfl) hml' (by unfold maxLen; omega) (by omega) (by omega) _ rfl ?_; intro g cap2 w3 hown3 hgr hat hg2)
        have hcells : ∀ (j : Nat) x, (ps ++ ms)[j]? = some x → w3.cell? ⟨g, 0 + j, none⟩ = some (.string x) := fun j x hj => by
          obtain ⟨h1, h2⟩ := List.getElem?_eq_some_iff.1 hj
          have h3 := row_get hown3 (by omega) j (by simp at h1 ⊢; omega)
          rw [Nat.zero_add, h3]
          have h4 : (ps.map Value.string ++ ms.map Value.string)[j]? = some (.string x) := by rw [← List.map_append, List.getElem?_map, hj]; rfl
          rw [List.getElem?_eq_getElem (by simp at h1 ⊢; omega)] at h4
          exact h4
        have hjn : Lib.join ((ps ++ ms).map (·.data.toList)) [32] = joinB 32 (txt word) (l.map Lib.itoa ++ ms.map txt) := by
          rw [List.map_append, show ps.map (·.data.toList) = txt word :: l.map Lib.itoa from HT.out, List.cons_append, join_eq]
        have hcap : ps.length + ms.length ≤ cap2 := by
          rcases hown3.2 with ⟨h, _⟩ | ⟨g', c', cur', hv', _, _, h, _⟩
          · cases h
          · injection hv' with _ _ h9; omega
        have hbl3 : Below w.heap.size w w3 := hbl.grown hgr hszr (fun j hj => (hown.lt j hj).1)
        have HJ := Tryz.strings_Join g 0 cap2 (ps ++ ms) ⟨#[32]⟩ w3 hcells hg2 (by simp; omega) (by simp; omega) (by show (Lib.join ((ps ++ ms).map (·.data.toList)) [32]).length ≤ _; rw [hjn]; exact HB.out)
        rw [List.length_append] at HJ
        refine HJ.mono ?_
        rintro e w5 ⟨rfl, b5⟩
        go_wp2_with fail
        go_ret
        exact ⟨hbl3.trans (b5.mono hbl3.size), _, rfl, by rw [← List.map_append]; exact hjn⟩
end Go.Proofs.YtddnmocoaahlfaaGreatDoor
namespace Go.Proofs.YtddnmocoaahlfaaGreatDoor
open Go.RowKit
/-- Where an operation leaves its value. -/
def dstOf (ops : Array Oper) (i : Nat) : Option Tmp := (ops[i]?).bind (·.dst)
/-- The values of those operations among the first n that have come up, laid in the text's order. -/
def laid (ops : Array Oper) (vals : Nat → Value) (L : Nat → Bool) (a : Act) : Nat → Act
  | 0 => a
  | n + 1 => if L n then (laid ops vals L a n).put (dstOf ops n) (vals n) else laid ops vals L a n
theorem laid_congr {ops : Array Oper} {vals vals' : Nat → Value} {L L' : Nat → Bool} {a : Act} : ∀ n, (∀ i, i < n → L i = L' i ∧ (L i = true → vals i = vals' i)) → laid ops vals L a n = laid ops vals' L' a n
  | 0, _ => rfl
  | n + 1, h => by
    have ih := laid_congr (ops := ops) (vals := vals) (vals' := vals') (L := L) (L' := L') (a := a) n (fun i hi => h i (by omega))
    obtain ⟨h1, h2⟩ := h n (by omega)
    unfold laid
    rw [ih, ← h1]
    cases hL : L n with
    | true => rw [if_pos rfl, if_pos rfl, h2 hL]
    | false => rw [if_neg (by simp), if_neg (by simp)]
def updV (f : Nat → Value) (i : Nat) (v : Value) : Nat → Value := fun j => if j = i then v else f j
def updL (L : Nat → Bool) (i : Nat) : Nat → Bool := fun j => if j = i then true else L j
theorem laid_put {ops : Array Oper} {vals : Nat → Value} {L : Nat → Bool} {a : Act} {i : Nat} {v : Value} (hL : L i = false) (hd : ∀ j, j ≠ i → ∀ d, dstOf ops i = some d → dstOf ops j ≠ some d) : ∀ n, i < n → laid ops (updV vals i v) (updL L i) a n = (laid ops vals L a n).put (dstOf ops i) v
  | 0, h => by omega
  | n + 1, h => by
    by_cases hn : n = i
    · subst hn
      unfold laid
      have hc : laid ops (updV vals n v) (updL L n) a n = laid ops vals L a n := laid_congr n (fun j hj => by
        unfold updL updV
        rw [if_neg (by omega), if_neg (by omega)]
        exact ⟨rfl, fun _ => rfl⟩)
      rw [hc, if_pos (by simp [updL]), hL, if_neg (by simp)]
      simp [updV]
    · have ih := laid_put (vals := vals) (a := a) (v := v) hL hd n (by omega)
      unfold laid
      have e1 : updL L i n = L n := by unfold updL; rw [if_neg hn]
      have e2 : updV vals i v n = vals n := by unfold updV; rw [if_neg hn]
      rw [e1, e2, ih]
      cases L n with
      | true =>
        rw [if_pos rfl, if_pos rfl]
        exact Act.put_comm _ _ _ (fun d h1 h2 => hd n hn d h1 h2)
      | false => rw [if_neg (by simp), if_neg (by simp)]
theorem laid_size {ops : Array Oper} {vals : Nat → Value} {L : Nat → Bool} {a : Act} : ∀ n, (laid ops vals L a n).tmps.size = a.tmps.size
  | 0 => rfl
  | n + 1 => by
    have ih := laid_size (ops := ops) (vals := vals) (L := L) (a := a) n
    unfold laid
    split
    · unfold Act.put
      split
      · simpa using ih
      · exact ih
    · exact ih
theorem laid_out {ops : Array Oper} {vals : Nat → Value} {L : Nat → Bool} {a : Act} {t : Tmp} : ∀ n, (∀ j, j < n → L j = true → dstOf ops j ≠ some t) → (laid ops vals L a n).eval (.tmp t) = a.eval (.tmp t)
  | 0, _ => rfl
  | n + 1, h => by
    have ih := laid_out (vals := vals) (L := L) (a := a) n (fun j hj => h j (by omega))
    unfold laid
    split
    · rename_i hL
      rw [Act.eval_put (fun d hd e => by injection e with e; subst e; exact h n (by omega) hL hd)]; exact ih
    · exact ih
theorem eval_put_same {a : Act} {d : Tmp} {v : Value} (h : d < a.tmps.size) : (a.put (some d) v).eval (.tmp d) = v := by simp [Act.eval, Act.put, h]
theorem laidv_at {ops : Array Oper} {vals : Nat → Value} {L : Nat → Bool} {a : Act} {i : Nat} {d : Tmp} (hi : L i = true) (hd : dstOf ops i = some d) (hs : d < a.tmps.size) (hdd : ∀ j, j ≠ i → dstOf ops j ≠ some d) : ∀ n, i < n → (laid ops vals L a n).eval (.tmp d) = vals i
  | 0, h => by omega
  | n + 1, h => by
    unfold laid
    by_cases hn : n = i
    · subst hn
      rw [if_pos hi, hd]
      exact eval_put_same (by rw [laid_size]; exact hs)
    · have ih := laidv_at (vals := vals) hi hd hs hdd n (by omega)
      split
      · rw [Act.eval_put (fun e he h2 => by injection h2 with h2; subst h2; exact hdd n hn he)]; exact ih
      · exact ih
/-- The region's text: no guards, each value in a place of its own, no operation waits for a later one. -/
def fineOps (ops : Array Oper) (n : Nat) : Bool :=
  ops.all (fun o => o.guard.isNone) &&
  (List.range ops.size).all (fun i => (List.range ops.size).all fun j => i == j || (dstOf ops i).isNone || dstOf ops i != dstOf ops j) &&
  (List.range ops.size).all (fun i => match dstOf ops i with | none => true | some d => decide (d < n)) &&
  (List.range ops.size).all (fun i => match ops[i]? with | none => true | some o => o.after.all fun e => decide (e.on < i))
structure FineOps (ops : Array Oper) (n : Nat) : Prop where
  guard : ∀ (i : Nat) (o : Oper), ops[i]? = some o → o.guard = none
  apart : ∀ i j, i ≠ j → ∀ d, dstOf ops i = some d → dstOf ops j ≠ some d
  inside : ∀ i d, dstOf ops i = some d → d < n
  acyc : ∀ (i : Nat) (o : Oper), ops[i]? = some o → ∀ e ∈ o.after, e.on < i
theorem dst_lt {ops : Array Oper} {i : Nat} {d : Tmp} (h : dstOf ops i = some d) : i < ops.size := by
  unfold dstOf at h
  cases ho : ops[i]? with
  | none => rw [ho] at h; cases h
  | some o => exact (Array.getElem?_eq_some_iff.1 ho).1
theorem fineOps_spec {ops : Array Oper} {n : Nat} (h : fineOps ops n = true) : FineOps ops n := by
  unfold fineOps at h
  simp only [Bool.and_eq_true, List.all_eq_true, List.mem_range] at h
  obtain ⟨⟨⟨h1, h2⟩, h3⟩, h4⟩ := h
  refine ⟨fun i o ho => ?_, fun i j hij d hi hj => ?_, fun i d hi => ?_, fun i o ho e he => ?_⟩
  · have := Array.all_eq_true_iff_forall_mem.1 h1 o (Array.mem_of_getElem? ho)
    simpa using this
  · have := h2 i (dst_lt hi) j (dst_lt hj)
    rw [hi, hj] at this
    simp [hij] at this
  · have := h3 i (dst_lt hi)
    rw [hi] at this
    simpa using this
  · have := h4 i (Array.getElem?_eq_some_iff.1 ho).1
    rw [ho] at this
    have := Array.all_eq_true_iff_forall_mem.1 this e he
    simpa using this
section
variable {P : Program} {ops : Array Oper} {Q : Exit → Act → World → Prop}
/-- What is known where some operations have come up. -/
structure Done (ops : Array Oper) (G : Nat → Value → World → Prop) (a0 : Act) (w0 : World) (listed : Array Bool) (vals : Nat → Value) (w : World) : Prop where
  size : listed.size = ops.size
  below : Below w0.heap.size w0 w
  said : ∀ i, i < ops.size → listed.getD i true = true → G i (vals i) w
  closed : ∀ (j : Nat) (oj : Oper), ops[j]? = some oj → listed.getD j true = true → ∀ e ∈ oj.after, Region.binds .any e = true → listed.getD e.on true = true
/-- What an operation must do. -/
def OpSays (P : Program) (ops : Array Oper) (Q : Exit → Act → World → Prop) (G : Nat → Value → World → Prop) (a0 : Act) (w0 : World) (i : Nat) (o : Oper) : Prop :=
  ∀ (a : Act) (w : World) (vals : Nat → Value), (∀ t, (∀ (j : Nat) (oj : Oper), ops[j]? = some oj → oj.dst = some t → ∃ e ∈ oj.after, e.on = i ∧ Region.binds .any e = true) → a.eval (.tmp t) = a0.eval (.tmp t)) →
    (∀ e ∈ o.after, Region.binds .any e = true → ∀ d, dstOf ops e.on = some d → a.eval (.tmp d) = vals e.on ∧ G e.on (vals e.on) w) → Below w0.heap.size w0 w →
    o.wp P a w (fun a' w' => ∃ v, a' = a.put o.dst v ∧ G i v w' ∧ Below w.heap.size w w') Q
/-- How many have not come up. -/
def cntR (f : Nat → Bool) : Nat → Nat
  | 0 => 0
  | n + 1 => cntR f n + if f n then 0 else 1
theorem cntR_congr {f g : Nat → Bool} : ∀ n, (∀ i, i < n → f i = g i) → cntR f n = cntR g n
  | 0, _ => rfl
  | n + 1, h => by
    have ih := cntR_congr (f := f) (g := g) n (fun i hi => h i (by omega))
    unfold cntR
    rw [ih, h n (by omega)]
theorem cntR_upd {f : Nat → Bool} {i : Nat} (hf : f i = false) : ∀ n, i < n → cntR (updL f i) n + 1 = cntR f n
  | 0, h => by omega
  | n + 1, h => by
    unfold cntR
    by_cases hn : n = i
    · subst hn
      have hc : cntR (updL f n) n = cntR f n := cntR_congr n (fun j hj => by unfold updL; rw [if_neg (by omega)])
      have e : updL f n n = true := by simp [updL]
      rw [hc, e, hf]; simp
    · have ih := cntR_upd hf n (by omega)
      have e : updL f i n = f n := by unfold updL; rw [if_neg hn]
      rw [e]; omega
theorem cntR_zero {f : Nat → Bool} : ∀ n, cntR f n = 0 → ∀ i, i < n → f i = true
  | 0, _ => fun i hi => by omega
  | n + 1, h => fun i hi => by
    unfold cntR at h
    by_cases hn : i = n
    · subst hn
      cases hf : f i with
      | true => rfl
      | false => rw [hf] at h; simp at h
    · exact cntR_zero n (by omega) i (by omega)
theorem getD_flip {listed : Array Bool} {i : Nat} (h : i < listed.size) : listed.getD i true = listed.getD i false := by simp [h]
theorem getD_set_self {listed : Array Bool} {i : Nat} (h : i < listed.size) (d : Bool) : (listed.setIfInBounds i true).getD i d = true := by simp [h]
theorem all_listed {listed : Array Bool} {n : Nat} (hf : FineOps ops n) (hs : listed.size = ops.size) (hr : Region.ready .any ops listed = []) : ∀ i, i < ops.size → listed.getD i true = true := by
  intro i
  induction i using Nat.strongRecOn with
  | ind i ih =>
    intro hi
    cases hl : listed.getD i true with
    | true => rfl
    | false =>
      exfalso
      obtain ⟨o, ho⟩ : ∃ o, ops[i]? = some o := ⟨_, Array.getElem?_eq_getElem hi⟩
      have hm : i ∈ Region.ready .any ops listed := mem_ready.2 ⟨hl, o, ho, fun e he hb => by
        have h1 := hf.acyc i o ho e he
        have h2 := ih e.on h1 (by omega)
        have h3 : e.on < listed.size := by omega
        rw [← getD_flip h3]
        exact h2⟩
      rw [hr] at hm
      cases hm
theorem wpAny_done_all {G : Nat → Value → World → Prop} {a0 : Act} {w0 : World} (hf : FineOps ops a0.tmps.size)
    (stable : ∀ i v w w', G i v w → Below w.heap.size w w' → G i v w')
    (H : ∀ i o, ops[i]? = some o → OpSays P ops Q G a0 w0 i o)
    (hQ : ∀ vals w, Below w0.heap.size w0 w → (∀ i, i < ops.size → G i (vals i) w) → Q .normal (laid ops vals (fun _ => true) a0 ops.size) w) :
    ∀ (fuel : Nat) (listed : Array Bool) (vals : Nat → Value) (w : World), Done ops G a0 w0 listed vals w → cntR (fun i => listed.getD i true) ops.size ≤ fuel →
      wpAny P .any ops Q fuel listed (laid ops vals (fun i => listed.getD i true) a0 ops.size) w := by
  have fin : ∀ (listed : Array Bool) (vals : Nat → Value) (w : World), Done ops G a0 w0 listed vals w → Region.ready .any ops listed = [] → Q .normal (laid ops vals (fun i => listed.getD i true) a0 ops.size) w := by
    intro listed vals w hd hr
    have hall := all_listed hf hd.size hr
    rw [laid_congr (vals' := vals) (L' := fun _ => true) ops.size (fun i hi => ⟨hall i hi, fun _ => rfl⟩)]
    exact hQ vals w hd.below (fun i hi => hd.said i hi (hall i hi))
  intro fuel
  induction fuel with
  | zero =>
    intro listed vals w hd hc
    have hall := cntR_zero _ (Nat.le_zero.1 hc)
    have hr : Region.ready .any ops listed = [] := by
      cases hr : Region.ready .any ops listed with
      | nil => rfl
      | cons j js =>
        exfalso
        obtain ⟨hl, o, ho, _⟩ := mem_ready.1 (show j ∈ Region.ready .any ops listed by rw [hr]; simp)
        have := hall j (Array.getElem?_eq_some_iff.1 ho).1
        rw [this] at hl
        cases hl
    exact ⟨hr, fin listed vals w hd hr⟩
  | succ fuel ih =>
    intro listed vals w hd hc
    refine ⟨fun hr => fin listed vals w hd hr, fun i hi => ?_⟩
    obtain ⟨hl, o, ho, hall⟩ := mem_ready.1 hi
    have hin := (Array.getElem?_eq_some_iff.1 ho).1
    have hdo : dstOf ops i = o.dst := by unfold dstOf; rw [ho]; rfl
    unfold wpOp
    rw [ho]
    simp only
    have hw : Region.wanted o (yielded ops (laid ops vals (fun i => listed.getD i true) a0 ops.size).tmps) = true := by
      unfold Region.wanted; rw [hf.guard i o ho]
    rw [if_pos hw]
    refine .inl ?_
    refine Oper.wp_mono ?_ (H i o ho (laid ops vals (fun i => listed.getD i true) a0 ops.size) w vals (fun t ht => laid_out _ (fun j hj hLj hdj => by
      obtain ⟨oj, hoj⟩ : ∃ oj, ops[j]? = some oj := ⟨_, Array.getElem?_eq_getElem hj⟩
      have hdj' : oj.dst = some t := by unfold dstOf at hdj; rw [hoj] at hdj; exact hdj
      obtain ⟨e, he, h1, h2⟩ := ht j oj hoj hdj'
      have := hd.closed j oj hoj hLj e he h2
      rw [h1, hl] at this
      cases this)) (fun e he hb d hdd => ?_) hd.below)
    · rintro a' w' ⟨v, rfl, hg, hb⟩
      have hnew : laid ops (updV vals i v) (fun j => (listed.setIfInBounds i true).getD j true) a0 ops.size = (laid ops vals (fun i => listed.getD i true) a0 ops.size).put o.dst v := by
        rw [← hdo, ← laid_put (v := v) (L := fun i => listed.getD i true) hl (fun j hj d h1 h2 => hf.apart i j (Ne.symm hj) d h1 h2) ops.size hin]
        refine laid_congr _ (fun j hj => ⟨?_, fun _ => rfl⟩)
        unfold updL
        by_cases hji : j = i
        · subst hji; rw [if_pos rfl, getD_set_self (by rw [hd.size]; exact hin)]
        · rw [if_neg hji, getD_set_ne true (Ne.symm hji)]
      rw [← hnew]
      refine ih _ _ _ ⟨by simp [hd.size], hd.below.trans (hb.mono hd.below.size), fun j hj hlj => ?_, fun j oj hoj hlj e he hbe => ?_⟩ ?_
      · by_cases hji : j = i
        · subst hji; simp only [updV, if_pos]; exact hg
        · rw [getD_set_ne true (Ne.symm hji)] at hlj
          simp only [updV, if_neg hji]
          exact stable j _ _ _ (hd.said j hj hlj) hb
      · have hmono : ∀ k, listed.getD k true = true → (listed.setIfInBounds i true).getD k true = true := fun k hk => by
          by_cases hki : i = k
          · subst hki; rw [hl] at hk; cases hk
          · rw [getD_set_ne true hki]; exact hk
        by_cases hji : j = i
        · subst hji
          obtain rfl := Option.some.inj (hoj.symm.trans ho)
          refine hmono _ ?_
          have h1 := hall e he hbe
          have h2 := hf.acyc j oj ho e he
          rw [getD_flip (by rw [hd.size]; omega)]
          exact h1
        · rw [getD_set_ne true (Ne.symm hji)] at hlj
          exact hmono _ (hd.closed j oj hoj hlj e he hbe)
      · have h1 := cntR_upd (f := fun i => listed.getD i true) hl ops.size hin
        rw [cntR_congr (g := fun j => (listed.setIfInBounds i true).getD j true) ops.size (fun j hj => by
          unfold updL
          by_cases hji : j = i
          · subst hji; rw [if_pos rfl, getD_set_self (by rw [hd.size]; exact hin)]
          · rw [if_neg hji, getD_set_ne true (Ne.symm hji)])] at h1
        omega
    · have h1 := hall e he hb
      have h2 := hf.acyc i o ho e he
      have h3 : listed.getD e.on true = true := by
        have : e.on < listed.size := by rw [hd.size]; omega
        rw [getD_flip this]
        exact h1
      exact ⟨laidv_at h3 hdd (hf.inside _ _ hdd) (fun j hj h => hf.apart e.on j (Ne.symm hj) d hdd h) _ (by omega), hd.said e.on (by omega) h3⟩
theorem laid_none {ops : Array Oper} {vals : Nat → Value} {L : Nat → Bool} {a : Act} : ∀ n, (∀ i, i < n → L i = false) → laid ops vals L a n = a
  | 0, _ => rfl
  | n + 1, h => by
    have ih := laid_none (ops := ops) (vals := vals) (L := L) (a := a) n (fun i hi => h i (by omega))
    unfold laid
    rw [h n (by omega), if_neg (by simp)]
    exact ih
/-- THE LAW: a region that draws its order, by what each operation says. -/
theorem wp_region_all {id : Nat} {a : Act} {w : World} (hm : P.follows .mixedOrders = true) (hf : fineOps ops a.tmps.size = true) (G : Nat → Value → World → Prop)
    (stable : ∀ i v w w', G i v w → Below w.heap.size w w' → G i v w')
    (H : ∀ i o, ops[i]? = some o → OpSays P ops Q G a w i o)
    (hQ : ∀ vals w', Below w.heap.size w w' → (∀ i, i < ops.size → G i (vals i) w') → Q .normal (laid ops vals (fun _ => true) a ops.size) w') : (Code.region id ops true).wp P Q a w := by
  refine wp_region_any hm ?_
  have hl : ∀ i, i < ops.size → (Array.replicate ops.size false).getD i true = false := fun i hi => by simp [hi]
  have := wpAny_done_all (P := P) (Q := Q) (fineOps_spec hf) stable H hQ ops.size (Array.replicate ops.size false) (fun _ => undef) w.drew
    ⟨by simp, (Below.refl _ w).drew, (fun i hi h => by rw [hl i hi] at h; cases h), (fun j oj hoj h => by rw [hl j (Array.getElem?_eq_some_iff.1 hoj).1] at h; cases h)⟩ (by
      have : ∀ (f : Nat → Bool) n, cntR f n ≤ n := by
        intro f n
        induction n with
        | zero => exact Nat.le_refl _
        | succ n ih => unfold cntR; split <;> omega
      exact this _ _)
  rw [laid_none ops.size hl] at this
  exact this
/-- An operation that yields a value. -/
theorem oper_val {o : Oper} {a : Act} {w w' : World} {K : Act → World → Prop} (S : Sem Value) (hex : execOp a.eval o = (do pure (.value (← S)))) (v : Value) (hrun : S.run P w = .ok v w') (h : K (a.put o.dst v) w') : o.wp P a w K Q := by
  unfold Oper.wp
  simp only [hex, Sem.run_bind, Sem.run_pure, hrun, Result.andThen_ok]
  exact h
/-- An operation that copies. -/
theorem oper_same {o : Oper} {a : Act} {w : World} {K : Act → World → Prop} (v : Value) (hex : execOp a.eval o = pure (.value v)) (h : K (a.put o.dst v) w) : o.wp P a w K Q := by
  unfold Oper.wp
  simp only [hex, Sem.run_pure]
  exact h
end
end Go.Proofs.YtddnmocoaahlfaaGreatDoor
namespace Go.Proofs.YtddnmocoaahlfaaGreatDoor
open Go.RowKit Go.Shelf
/-- What is said of a value. -/
inductive Say where
  | val (v : Value)
  | row (l : List Int)
  | one (s : ByteArray)
  | str (t : List UInt8)
  | rows (ls : List (List UInt8))
def Say.holds : Say → Value → World → Prop
  | .val u, v, _ => v = u
  | .row l, v, w => ∃ D, v = .slice (some ⟨D, 0, none⟩) l.length l.length ∧ Blk w D (l.map (fun n => Value.int .i64 n)).toArray 3
  | .one s, v, w => ∃ D, v = .slice (some ⟨D, 0, none⟩) 1 1 ∧ Blk w D #[.string s] 9
  | .str t, v, _ => ∃ s : ByteArray, v = .string s ∧ txt s = t
  | .rows ls, v, w => ∃ (D : Nat) (ss : List ByteArray), v = .slice (some ⟨D, 0, none⟩) ss.length ss.length ∧ Blk w D (ss.map Value.string).toArray 9 ∧ ss.map txt = ls
theorem Say.stable (s : Say) {v : Value} {w w' : World} (h : s.holds v w) (b : Below w.heap.size w w') : s.holds v w' := by
  cases s with
  | val u => exact h
  | row l => obtain ⟨D, h1, h2⟩ := h; exact ⟨D, h1, h2.below b⟩
  | one s => obtain ⟨D, h1, h2⟩ := h; exact ⟨D, h1, h2.below b⟩
  | str t => exact h
  | rows ls => obtain ⟨D, ss, h1, h2, h3⟩ := h; exact ⟨D, ss, h1, h2.below b, h3⟩
/-- The text of an operation. -/
def OpIs (ops : Array Oper) (i : Nat) (op : Op) (d : Tmp) (deps : List Nat) : Prop := ∃ o, ops[i]? = some o ∧ o.op = op ∧ o.dst = some d ∧ ∀ j ∈ deps, ∃ e ∈ o.after, e.on = j ∧ Region.binds .any e = true
theorem OpIs.dst {ops : Array Oper} {i : Nat} {op : Op} {d : Tmp} {deps : List Nat} (h : OpIs ops i op d deps) : dstOf ops i = some d := by
  obtain ⟨o, ho, _, hd, _⟩ := h
  unfold dstOf; rw [ho]; exact hd
def depsOk (o : Oper) (deps : List Nat) : Bool := deps.all fun j => o.after.any fun e => e.on == j && Region.binds .any e
theorem depsOk_spec {o : Oper} {deps : List Nat} (h : depsOk o deps = true) : ∀ j ∈ deps, ∃ e ∈ o.after, e.on = j ∧ Region.binds .any e = true := by
  intro j hj
  have h1 := List.all_eq_true.1 h j hj
  obtain ⟨e, he, hb⟩ := Array.any_eq_true'.1 h1
  simp only [Bool.and_eq_true, beq_iff_eq] at hb
  exact ⟨e, he, hb.1, hb.2⟩
theorem region_open {P : Program} {id : Nat} {X : Array Oper} {Q : Exit → Act → World → Prop} {a : Act} {w : World} (h : ∀ ops, ops = X → ∀ a0, a0 = a → (Code.region id ops true).wp P Q a0 w) : (Code.region id X true).wp P Q a w := h X rfl a rfl
def noDst (ops : Array Oper) (x : Tmp) : Bool := ops.all fun o => o.dst != some x
theorem noDst_spec {ops : Array Oper} {x : Tmp} (h : noDst ops x = true) (j : Nat) : dstOf ops j ≠ some x := by
  unfold dstOf
  cases ho : ops[j]? with
  | none => simp
  | some o =>
    have := Array.all_eq_true_iff_forall_mem.1 h o (Array.mem_of_getElem? ho)
    simpa using this
section
variable {P : Program} {ops : Array Oper} {Q : Exit → Act → World → Prop} {says : Nat → Say} {a0 : Act} {w0 : World}
abbrev GS (says : Nat → Say) : Nat → Value → World → Prop := fun i v w => (says i).holds v w
/-- What is known where an operation comes up. -/
structure Come (ops : Array Oper) (says : Nat → Say) (a0 : Act) (w0 : World) (i : Nat) (deps : List Nat) (a : Act) (w : World) : Prop where
  late : ∀ t, (∀ (j : Nat) (oj : Oper), ops[j]? = some oj → oj.dst = some t → ∃ e ∈ oj.after, e.on = i ∧ Region.binds .any e = true) → a.eval (.tmp t) = a0.eval (.tmp t)
  inn : ∀ j ∈ deps, ∀ d, dstOf ops j = some d → (says j).holds (a.eval (.tmp d)) w
  below : Below w0.heap.size w0 w
theorem Come.out {i : Nat} {deps : List Nat} {a : Act} {w : World} (hc : Come ops says a0 w0 i deps a w) (x : Tmp) (h : ∀ j, dstOf ops j ≠ some x) : a.eval (.tmp x) = a0.eval (.tmp x) :=
  hc.late x fun j oj hoj hd => absurd (show dstOf ops j = some x by unfold dstOf; rw [hoj]; exact hd) (h j)
theorem Come.val {i : Nat} {deps : List Nat} {a : Act} {w : World} (hc : Come ops says a0 w0 i deps a w) {j : Nat} {d : Tmp} {v : Value} (hj : j ∈ deps) (hd : dstOf ops j = some d) (hs : says j = .val v) : a.eval (.tmp d) = v := by
  have := hc.inn j hj d hd
  rw [hs] at this
  exact this
theorem Come.str {i : Nat} {deps : List Nat} {a : Act} {w : World} (hc : Come ops says a0 w0 i deps a w) {j : Nat} {d : Tmp} {t : List UInt8} (hj : j ∈ deps) (hd : dstOf ops j = some d) (hs : says j = .str t) : ∃ s : ByteArray, a.eval (.tmp d) = .string s ∧ txt s = t := by
  have := hc.inn j hj d hd
  rw [hs] at this
  exact this
theorem Come.row {i : Nat} {deps : List Nat} {a : Act} {w : World} (hc : Come ops says a0 w0 i deps a w) {j : Nat} {d : Tmp} {l : List Int} (hj : j ∈ deps) (hd : dstOf ops j = some d) (hs : says j = .row l) : ∃ D, a.eval (.tmp d) = .slice (some ⟨D, 0, none⟩) l.length l.length ∧ Blk w D (l.map (fun n => Value.int .i64 n)).toArray 3 := by
  have := hc.inn j hj d hd
  rw [hs] at this
  exact this
theorem Come.one {i : Nat} {deps : List Nat} {a : Act} {w : World} (hc : Come ops says a0 w0 i deps a w) {j : Nat} {d : Tmp} {s : ByteArray} (hj : j ∈ deps) (hd : dstOf ops j = some d) (hs : says j = .one s) : ∃ D, a.eval (.tmp d) = .slice (some ⟨D, 0, none⟩) 1 1 ∧ Blk w D #[.string s] 9 := by
  have := hc.inn j hj d hd
  rw [hs] at this
  exact this
/-- An operation does what is said of it. -/
def Ok (P : Program) (ops : Array Oper) (Q : Exit → Act → World → Prop) (says : Nat → Say) (a0 : Act) (w0 : World) (i : Nat) : Prop := ∀ o, ops[i]? = some o → OpSays P ops Q (GS says) a0 w0 i o
theorem ok_of {i : Nat} {op : Op} {d : Tmp} {deps : List Nat} (h : OpIs ops i op d deps) (H : ∀ (o : Oper), o.op = op → o.dst = some d → ∀ (a : Act) (w : World), Come ops says a0 w0 i deps a w → o.wp P a w (fun a' w' => ∃ v, a' = a.put o.dst v ∧ (says i).holds v w' ∧ Below w.heap.size w w') Q) : Ok P ops Q says a0 w0 i := by
  intro o ho
  obtain ⟨o', ho', h1, h2, h3⟩ := h
  obtain rfl := Option.some.inj (ho.symm.trans ho')
  intro a w vals hout hin hb
  refine H o h1 h2 a w ⟨hout, fun j hj d hd => ?_, hb⟩
  obtain ⟨e, he, rfl, hbd⟩ := h3 j hj
  obtain ⟨g1, g2⟩ := hin e he hbd d hd
  rw [g1]; exact g2
/-- A value by its run. -/
theorem ok_val {i : Nat} {op : Op} {d : Tmp} {deps : List Nat} (h : OpIs ops i op d deps) (S : (Operand → Value) → Sem Value) (hex : ∀ (ρ : Operand → Value) (o : Oper), o.op = op → execOp ρ o = (do pure (.value (← S ρ))))
    (hrun : ∀ a w, Come ops says a0 w0 i deps a w → ∃ v w', (S a.eval).run P w = .ok v w' ∧ (says i).holds v w' ∧ Below w.heap.size w w') : Ok P ops Q says a0 w0 i :=
  ok_of h fun o h1 h2 a w hc => by
    obtain ⟨v, w', hr, hs, hb⟩ := hrun a w hc
    exact oper_val (S a.eval) (hex a.eval o h1) v hr ⟨v, rfl, hs, hb⟩
theorem ok_copy {i x j : Nat} {op : Op} {d : Tmp} (h : OpIs ops i op d [j]) (hop : op = .move (.tmp x) ∨ op = .assign (.tmp x)) (hd : dstOf ops j = some x) (hs : says i = says j) : Ok P ops Q says a0 w0 i :=
  ok_of h fun o h1 h2 a w hc => by
    refine oper_same (a.eval (.tmp x)) ?_ ⟨_, rfl, ?_, Below.refl _ _⟩
    · unfold execOp; rw [h1]; rcases hop with rfl | rfl <;> rfl
    · rw [hs]; exact hc.inn j (by simp) x hd
/-- The address of a field: of a pointer that stood ahead of the region, or of one made in it. -/
theorem ok_field {i x R o1 o2 : Nat} {T k d : Nat} (h : OpIs ops i (.fieldAddr T (.tmp x) k) d []) (hx : noDst ops x = true) (h0 : a0.eval (.tmp x) = .pointer (some ⟨R, o1, none⟩)) (hr : ∀ w, (Instr.fieldAt T (.pointer (some ⟨R, o1, none⟩)) k).run P w = .ok (.pointer (some ⟨R, o2, none⟩)) w)
    (hs : says i = .val (.pointer (some ⟨R, o2, none⟩))) : Ok P ops Q says a0 w0 i :=
  ok_val h (fun ρ => Instr.fieldAt T (ρ (.tmp x)) k) (fun ρ o ho => by unfold execOp; rw [ho]) fun a w hc => by
    rw [hc.out x (noDst_spec hx), h0]
    exact ⟨_, w, hr w, by rw [hs]; rfl, Below.refl _ _⟩
theorem ok_field2 {i j x R o1 o2 : Nat} {T k d : Nat} (h : OpIs ops i (.fieldAddr T (.tmp x) k) d [j]) (hx : dstOf ops j = some x) (h0 : says j = .val (.pointer (some ⟨R, o1, none⟩))) (hr : ∀ w, (Instr.fieldAt T (.pointer (some ⟨R, o1, none⟩)) k).run P w = .ok (.pointer (some ⟨R, o2, none⟩)) w)
    (hs : says i = .val (.pointer (some ⟨R, o2, none⟩))) : Ok P ops Q says a0 w0 i :=
  ok_val h (fun ρ => Instr.fieldAt T (ρ (.tmp x)) k) (fun ρ o ho => by unfold execOp; rw [ho]) fun a w hc => by
    have := hc.inn j (by simp) x hx
    rw [h0] at this
    have e : a.eval (.tmp x) = .pointer (some ⟨R, o1, none⟩) := this
    rw [e]
    exact ⟨_, w, hr w, by rw [hs]; rfl, Below.refl _ _⟩
theorem ok_load {i j x : Nat} {T d : Nat} {p v : Value} (h : OpIs ops i (.load T (.tmp x)) d [j]) (hx : dstOf ops j = some x) (h0 : says j = .val p) (hr : ∀ w, Below w0.heap.size w0 w → (Instr.loadAt T p).run P w = .ok v w) (hs : says i = .val v) : Ok P ops Q says a0 w0 i :=
  ok_val h (fun ρ => Instr.loadAt T (ρ (.tmp x))) (fun ρ o ho => by unfold execOp; rw [ho]) fun a w hc => by
    have := hc.inn j (by simp) x hx
    rw [h0] at this
    have e : a.eval (.tmp x) = p := this
    rw [e]
    exact ⟨_, w, hr w hc.below, by rw [hs]; rfl, Below.refl _ _⟩
theorem alloc_below (w : World) (o : Obj) : Below w.heap.size w (w.alloc o) := (Below.refl _ _).alloc (Nat.le_refl _) _
/-- A row of numbers. -/
theorem ok_row {i n : Nat} {d : Nat} {parts : Array (Nat × Operand)} {deps : List Nat} {lits : Array (Nat × Value)} {l : List Int} (h : OpIs ops i (.buildSlice 22 n parts) d deps) (hp : ∀ a w, Come ops says a0 w0 i deps a w → (parts.map fun (k, x) => (k, a.eval x)) = lits)
    (hr : ∀ w, (Instr.buildSlice 22 n lits).run P w = .ok (.slice (some ⟨w.heap.size, 0, none⟩) l.length l.length) (w.alloc (.cells (l.map (fun n => Value.int .i64 n)).toArray 3))) (hs : says i = .row l) : Ok P ops Q says a0 w0 i :=
  ok_val h (fun ρ => Instr.buildSlice 22 n (parts.map fun (k, x) => (k, ρ x))) (fun ρ o ho => by unfold execOp; rw [ho]) fun a w hc => by
    rw [hp a w hc]
    exact ⟨_, _, hr w, by rw [hs]; exact ⟨_, rfl, Blk.new w _ _⟩, alloc_below w _⟩
/-- A call that returns. -/
theorem ok_call {i : Nat} {d : Nat} {f : FuncId} {args : Array Operand} {ats : Array TypeId} {deps : List Nat} (h : OpIs ops i (.call { callee := .value (.func f), args := args, argTypes := ats }) d deps)
    (H : ∀ (o : Oper) (a : Act) (w : World), o.op = .call { callee := .value (.func f), args := args, argTypes := ats } → Come ops says a0 w0 i deps a w → ∃ vs, (execOp a.eval o).run P w = .ok (.enter f vs) w ∧ Calls P f vs w (fun e w' => Below w.heap.size w w' ∧ ∃ u, e = .returned u ∧ (says i).holds u w')) : Ok P ops Q says a0 w0 i :=
  ok_of h fun o h1 h2 a w hc => by
    obtain ⟨vs, hr, hcall⟩ := H o a w h1 hc
    unfold Oper.wp
    rw [hr]
    simp only [Oper.upon]
    refine Calls.mono hcall ?_
    rintro e w' ⟨hb, u, rfl, hs⟩
    exact ⟨u, rfl, hs, hb⟩
end
theorem ent3r {f : FuncId} (he : Enters Tryz.prog f) (x y z : Operand) (ats : Array TypeId) (ρ : Operand → Value) (e : ρ (.func f) = .func (.func f) #[] #[]) (o : Oper) (w : World) (ho : o.op = .call { callee := .value (.func f), args := #[x, y, z], argTypes := ats }) : (execOp ρ o).run Tryz.prog w = .ok (.enter f #[ρ x, ρ y, ρ z]) w := by
  unfold execOp
  rw [ho]
  simp [resolve, invoke, e, Deferred.ofValue, go_sem, he #[ρ x, ρ y, ρ z] w]
theorem ent3 {f : FuncId} (he : Enters Tryz.prog f) (x y z : Operand) (ats : Array TypeId) (a0 : Act) (o : Oper) (w : World) (ho : o.op = .call { callee := .value (.func f), args := #[x, y, z], argTypes := ats }) : (execOp a0.eval o).run Tryz.prog w = .ok (.enter f #[a0.eval x, a0.eval y, a0.eval z]) w :=
  ent3r he x y z ats a0.eval (by simp [Act.eval]) o w ho
theorem ent1r {f : FuncId} (he : Enters Tryz.prog f) (x : Operand) (ats : Array TypeId) (ρ : Operand → Value) (e : ρ (.func f) = .func (.func f) #[] #[]) (o : Oper) (w : World) (ho : o.op = .call { callee := .value (.func f), args := #[x], argTypes := ats }) : (execOp ρ o).run Tryz.prog w = .ok (.enter f #[ρ x]) w := by
  unfold execOp
  rw [ho]
  simp [resolve, invoke, e, Deferred.ofValue, go_sem, he #[ρ x] w]
theorem ent1 {f : FuncId} (he : Enters Tryz.prog f) (x : Operand) (ats : Array TypeId) (a0 : Act) (o : Oper) (w : World) (ho : o.op = .call { callee := .value (.func f), args := #[x], argTypes := ats }) : (execOp a0.eval o).run Tryz.prog w = .ok (.enter f #[a0.eval x]) w :=
  ent1r he x ats a0.eval (by simp [Act.eval]) o w ho
theorem eval_const (a : Act) (v : Value) : a.eval (.const v) = v := by simp [Act.eval]
theorem follows_mixed : Tryz.prog.follows .mixedOrders = true := by kernel_rfl
theorem ld3 (R k : Nat) (v : Value) (w : World) (h : w.cell? ⟨R, k, none⟩ = some v) : (Instr.loadAt 3 (.pointer (some ⟨R, k, none⟩))).run Tryz.prog w = .ok v w := by simp [go_sem, Instr.loadAt, Instr.sureAddr, h]
theorem ld4 (R k : Nat) (v : Value) (w : World) (h : w.cell? ⟨R, k, none⟩ = some v) : (Instr.loadAt 4 (.pointer (some ⟨R, k, none⟩))).run Tryz.prog w = .ok v w := by simp [go_sem, Instr.loadAt, Instr.sureAddr, h]
theorem ld9 (R k : Nat) (v : Value) (w : World) (h : w.cell? ⟨R, k, none⟩ = some v) : (Instr.loadAt 9 (.pointer (some ⟨R, k, none⟩))).run Tryz.prog w = .ok v w := by simp [go_sem, Instr.loadAt, Instr.sureAddr, h]
theorem ld27 (R k : Nat) (v : Value) (w : World) (h : w.cell? ⟨R, k, none⟩ = some v) : (Instr.loadAt 27 (.pointer (some ⟨R, k, none⟩))).run Tryz.prog w = .ok v w := by simp [go_sem, Instr.loadAt, Instr.sureAddr, h]
end Go.Proofs.YtddnmocoaahlfaaGreatDoor
namespace Go.Proofs.YtddnmocoaahlfaaGreatDoor
open Go.RowKit Go.Shelf
theorem nrow_blk {w : World} {D : Nat} {xs : List Int} (h : Blk w D (xs.map (fun n => Value.int .i64 n)).toArray 3) (h0 : xs ≠ []) : NRow w (.slice (some ⟨D, 0, none⟩) xs.length xs.length) xs :=
  .inr ⟨h0, D, 0, xs.length, rfl, Nat.le_refl _, fun j hj => by rw [Nat.zero_add, h.cell j]; simp [hj]⟩
theorem srw_blk {w : World} {D : Nat} {s : ByteArray} {T : TypeId} (h : Blk w D #[.string s] T) : SRw w (.slice (some ⟨D, 0, none⟩) 1 1) [s] :=
  .inr ⟨by simp, D, 0, 1, rfl, Nat.le_refl _, fun j hj => by
    have : j = 0 := by simp at hj; omega
    subst this
    exact (h.cell 0).trans rfl⟩
theorem joinB_len (b : UInt8) (w : List UInt8) : ∀ ps : List (List UInt8), (joinB b w ps).length = w.length + (ps.map (fun p => p.length + 1)).sum
  | [] => by simp [joinB]
  | p :: ps => by
    have ih := joinB_len b w ps
    unfold joinB at ih ⊢
    simp only [List.flatMap_cons, List.length_append, List.length_cons, List.map_cons, List.sum_cons] at ih ⊢
    omega
theorem banned_len (ss : List ByteArray) : (ss.map (fun s => (txt s).length + 1)).sum = (ss.map (·.size)).sum + ss.length := by
  induction ss with
  | nil => rfl
  | cons s ss ih =>
    have : (txt s).length = s.size := by simp
    simp only [List.map_cons, List.sum_cons, List.length_cons, ih, this]
    omega
theorem mem_sum (ss : List ByteArray) (x : ByteArray) (h : x ∈ ss) : x.size ≤ (ss.map (·.size)).sum := by
  induction ss with
  | nil => cases h
  | cons s ss ih =>
    simp only [List.map_cons, List.sum_cons]
    rcases List.mem_cons.1 h with rfl | h
    · omega
    · have := ih h; omega
theorem join_eq10 (x : List UInt8) (r : List (List UInt8)) : Lib.join (x :: r) [10] = joinB 10 x r := by
  rw [Lib.join_cons]
  unfold Lib.joinTail joinB
  rw [List.flatMap_def]
  rfl
theorem flat_join (x : List UInt8) : ∀ r : List (List UInt8), joinB 10 x r ++ [10] = (x :: r).flatMap (· ++ [10])
  | [] => by simp [joinB]
  | y :: r => by
    have ih := flat_join y r
    unfold joinB at ih ⊢
    simp only [List.flatMap_cons, List.append_assoc, List.cons_append] at ih ⊢
    rw [← ih]
    simp
/-- join over numbers alone. -/
theorem joinN {w : World} (he : Tab7 w) {wd : ByteArray} {D : Nat} {xs : List Int} (h : Blk w D (xs.map (fun n => Value.int .i64 n)).toArray 3) (h0 : xs ≠ []) (hi : ∀ n ∈ xs, I64 n) (hl : xs.length ≤ 16) (hw : wd.size ≤ 64) :
    Calls Tryz.prog 42 #[.string wd, .slice (some ⟨D, 0, none⟩) xs.length xs.length, .slice none 0 0] w (RetStr w (lineT (txt wd) xs)) := by
  have e : joinB 32 (txt wd) (xs.map Lib.itoa ++ List.map txt []) = lineT (txt wd) xs := by rw [List.map_nil, List.append_nil, line_join]
  have hwl : (txt wd).length = wd.size := by simp
  have hlen := lineT_len (txt wd) xs (fun n hn => hi n hn)
  have := joinW_any he (word := wd) (ms := []) (mv := .slice none 0 0) (nrow_blk h h0) hi (.inl ⟨rfl, _, _, rfl⟩) (by omega) (by simp) (by rw [e]; omega)
  rw [e] at this
  exact this
/-- join over words alone. -/
theorem joinS {w : World} (he : Tab7 w) {wd : ByteArray} {mv : Value} {ss : List ByteArray} (h : SRw w mv ss) (hl : ss.length ≤ 5000) (hb : (ss.map (·.size)).sum ≤ 5000) (hw : wd.size ≤ 64) :
    Calls Tryz.prog 42 #[.string wd, .slice none 0 0, mv] w (RetStr w (joinB 32 (txt wd) (ss.map txt))) := by
  have hwl : (txt wd).length = wd.size := by simp
  have hlen := joinB_len 32 (txt wd) (ss.map txt)
  have e2 : ((ss.map txt).map fun p => p.length + 1) = ss.map (fun s => (txt s).length + 1) := by rw [List.map_map]; rfl
  rw [e2, banned_len] at hlen
  have := joinW_any he (word := wd) (l := []) (v := .slice none 0 0) (.inl ⟨rfl, _, _, rfl⟩) (fun n hn => by cases hn) h (by simp) (by omega) (by
    show (joinB 32 (txt wd) ([] ++ ss.map txt)).length ≤ _
    rw [List.nil_append]; omega)
  exact this
theorem lines_short {q : PV} {ss : List ByteArray} (hI : ∀ m ∈ (q.pl (ss.map txt)).ints, I64 m) (ha : q.al.size ≤ 4000) (hb : (ss.map (·.size)).sum ≤ 4000) (hl : ss.length ≤ 100) : ∀ l ∈ plantLines (q.pl (ss.map txt)), l.length ≤ 5000 := by
  have hn : ∀ (w : List UInt8) (l : List Int), w.length ≤ 64 → l.length ≤ 16 → (∀ m ∈ l, I64 m) → (lineT w l).length ≤ 5000 := fun w l h1 h2 h3 => by
    have := lineT_len w l (fun m hm => h3 m hm); omega
  have hal : (txt q.al).length = q.al.size := by simp
  have hbl := joinB_len 32 pBanned (ss.map txt)
  have e2 : ((ss.map txt).map fun p => p.length + 1) = ss.map (fun s => (txt s).length + 1) := by rw [List.map_map]; rfl
  rw [e2, banned_len] at hbl
  have hw : pBanned.length = 6 := rfl
  have hw2 : pAlphabet.length = 8 := rfl
  have hab := joinB_len 32 pAlphabet [txt q.al]
  simp only [List.map_cons, List.map_nil, List.sum_cons, List.sum_nil] at hab
  unfold PV.pl Pl.ints at hI
  intro l hm
  unfold plantLines PV.pl at hm
  simp only [List.mem_cons, List.not_mem_nil, or_false] at hm
  rcases hm with rfl | rfl | rfl | rfl | rfl | rfl | rfl | rfl | rfl | rfl | rfl | rfl | rfl
  · omega
  · exact hn _ _ (by decide) (by simp) (fun m hm => hI m (by simp at hm; simp [hm]))
  · omega
  · exact hn _ _ (by decide) (by simp) (fun m hm => by rw [List.mem_singleton.1 hm]; exact bit_i64 _)
  · refine hn _ _ (by decide) (by simp) (fun m hm => ?_)
    simp only [List.mem_cons, List.not_mem_nil, or_false] at hm
    rcases hm with rfl | rfl | rfl | rfl | rfl
    · exact hI _ (by simp)
    · exact hI _ (by simp)
    · exact hI _ (by simp)
    · exact hI _ (by simp)
    · exact bit_i64 _
  · refine hn _ _ (by decide) (by simp) (fun m hm => ?_)
    simp only [List.mem_cons, List.not_mem_nil, or_false] at hm
    rcases hm with rfl | rfl | rfl <;> exact hI _ (by simp)
  all_goals exact hn _ _ (by decide) (by simp) (fun m hm => by rw [List.mem_singleton.1 hm]; exact hI _ (by simp))
theorem lines_short2 {q : PV} {ss : List ByteArray} (hI : ∀ m ∈ (q.pl (ss.map txt)).ints, I64 m) (ha : q.al.size ≤ 5000) (hb : (ss.map (·.size)).sum ≤ 5000) (hl : ss.length ≤ 5000) : ∀ l ∈ plantLines (q.pl (ss.map txt)), l.length ≤ 11000 := by
  have hn : ∀ (w : List UInt8) (l : List Int), w.length ≤ 64 → l.length ≤ 16 → (∀ m ∈ l, I64 m) → (lineT w l).length ≤ 11000 := fun w l h1 h2 h3 => by
    have := lineT_len w l (fun m hm => h3 m hm); omega
  have hal : (txt q.al).length = q.al.size := by simp
  have hbl := joinB_len 32 pBanned (ss.map txt)
  have e2 : ((ss.map txt).map fun p => p.length + 1) = ss.map (fun s => (txt s).length + 1) := by rw [List.map_map]; rfl
  rw [e2, banned_len] at hbl
  have hw : pBanned.length = 6 := rfl
  have hw2 : pAlphabet.length = 8 := rfl
  have hab := joinB_len 32 pAlphabet [txt q.al]
  simp only [List.map_cons, List.map_nil, List.sum_cons, List.sum_nil] at hab
  unfold PV.pl Pl.ints at hI
  intro l hm
  unfold plantLines PV.pl at hm
  simp only [List.mem_cons, List.not_mem_nil, or_false] at hm
  rcases hm with rfl | rfl | rfl | rfl | rfl | rfl | rfl | rfl | rfl | rfl | rfl | rfl | rfl
  · omega
  · exact hn _ _ (by decide) (by simp) (fun m hm => hI m (by simp at hm; simp [hm]))
  · omega
  · exact hn _ _ (by decide) (by simp) (fun m hm => by rw [List.mem_singleton.1 hm]; exact bit_i64 _)
  · refine hn _ _ (by decide) (by simp) (fun m hm => ?_)
    simp only [List.mem_cons, List.not_mem_nil, or_false] at hm
    rcases hm with rfl | rfl | rfl | rfl | rfl
    · exact hI _ (by simp)
    · exact hI _ (by simp)
    · exact hI _ (by simp)
    · exact hI _ (by simp)
    · exact bit_i64 _
  · refine hn _ _ (by decide) (by simp) (fun m hm => ?_)
    simp only [List.mem_cons, List.not_mem_nil, or_false] at hm
    rcases hm with rfl | rfl | rfl <;> exact hI _ (by simp)
  all_goals exact hn _ _ (by decide) (by simp) (fun m hm => by rw [List.mem_singleton.1 hm]; exact hI _ (by simp))
theorem sum_short : ∀ (l : List (List UInt8)), (∀ x ∈ l, x.length ≤ 11000) → (l.map (fun p => p.length + 1)).sum ≤ 11001 * l.length
  | [], _ => Nat.le_refl _
  | x :: l, h => by
    have h1 := sum_short l (fun y hy => h y (by simp [hy]))
    have h2 := h x (by simp)
    simp only [List.map_cons, List.sum_cons, List.length_cons]
    omega
theorem join_short {l : List (List UInt8)} (h0 : l ≠ []) (h : ∀ x ∈ l, x.length ≤ 11000) (hl : l.length ≤ 13) : (Lib.join l [10]).length ≤ 600000 ∧ Lib.join l [10] ++ [10] = l.flatMap (· ++ [10]) := by
  obtain ⟨x, r, rfl⟩ := List.exists_cons_of_ne_nil h0
  rw [join_eq10, flat_join]
  refine ⟨?_, rfl⟩
  rw [joinB_len]
  have h1 := sum_short r (fun y hy => h y (by simp [hy]))
  have h2 := h x (by simp)
  simp only [List.length_cons] at hl
  omega
theorem plantLines_13 (p : Pl) : (plantLines p).length = 13 := rfl
/-- What PlantText returns, from its lines. -/
theorem plantT_good {p : Pl} (h : isTokL p.alphabet = true) (h2 : p.banned.all isTokL = true) : plantT p = ((plantLines p).flatMap (· ++ [10]), 0) := by unfold plantT; rw [h, h2]; rfl
theorem plantT_bad {p : Pl} (h : ¬ (isTokL p.alphabet && p.banned.all isTokL) = true) : plantT p = ([], 2) := by unfold plantT; rw [if_neg h]
set_option maxRecDepth 100000 in
set_option maxHeartbeats 8000000 in
theorem plantText_wide {w : World} (he : Tab7 w) {q : PV} {p : Option Addr} {n c : Nat} {ss : List ByteArray} (hs : SRw w (.slice p n c) ss) (hn : ss.length = n) (hl : n ≤ 5000) (hb : bytesOf q.al ss ≤ 5000) (hI : ∀ m ∈ (q.pl (ss.map txt)).ints, I64 m) : Calls Tryz.prog 25 #[.agg (q.cells (.slice p n c))] w (RetTE w (plantT (q.pl (ss.map txt)))) := by
  obtain ⟨i0, hi0, hz0, hz1, hz2⟩ := info_parts info9
  obtain ⟨w1, hw1⟩ : ∃ w1, w1 = w.alloc (.cells (q.cells (.slice p n c)) 35) := ⟨_, rfl⟩
  have l1 : Below w.heap.size w w1 := by rw [hw1]; exact (Below.refl _ _).alloc (Nat.le_refl _) _
  have B1 : Blk w1 w.heap.size (q.cells (.slice p n c)) 35 := by rw [hw1]; exact Blk.new w _ _
  have z1 : w1.heap.size = w.heap.size + 1 := by rw [hw1]; simp
  have hs1 := hs.below l1
  obtain ⟨res, hres⟩ : ∃ res, res = plantT (q.pl (ss.map txt)) := ⟨_, rfl⟩
  rw [← hres]
  have hbs : (ss.map (·.size)).sum ≤ 5000 ∧ q.al.size ≤ 5000 := by unfold bytesOf at hb; omega
  have hts : ∀ x ∈ q.al :: ss, x.size ≤ 281474976710656 := by
    intro x hx
    rcases List.mem_cons.1 hx with rfl | hx
    · omega
    · have : x.size ≤ (ss.map (·.size)).sum := mem_sum ss x hx
      omega
  obtain ⟨w2, hw2⟩ : ∃ w2, w2 = w1.alloc (.cells #[.string q.al] 9) := ⟨_, rfl⟩
  have l12 : Below w1.heap.size w1 w2 := by rw [hw2]; exact (Below.refl _ _).alloc (Nat.le_refl _) _
  have A2 : Blk w2 w1.heap.size #[.string q.al] 9 := by rw [hw2]; exact Blk.new w1 _ _
  have r2 : w2.ownsRow w1.heap.size 9 1 (.slice (some ⟨w1.heap.size, 0, none⟩) 1 1) 1 [.string q.al] :=
    ⟨rfl, .inr ⟨w1.heap.size, 1, #[.string q.al], rfl, Nat.le_refl _, A2, Nat.le_refl _, by unfold maxLen; omega, rfl, rfl⟩⟩
  have l2 := l1.trans (l12.mono l1.size)
  have hz12 := l12.size
  have B2 := B1.below l12
  have hs2 := hs1.below l12
  have y0 : w1.cell? ⟨w.heap.size, 0, none⟩ = some (.string q.al) := (B1.cell 0).trans rfl
  have y2 : w1.cell? ⟨w.heap.size, 2, none⟩ = some (.slice p n c) := (B1.cell 2).trans rfl
  have y2' : w2.cell? ⟨w.heap.size, 2, none⟩ = some (.slice p n c) := (B2.cell 2).trans rfl
  have HZ1 := Lib.hid z1
  have hlt1 : w.heap.size < w1.heap.size := by omega
  have HW := Lib.hid hw1
  have HW2 := Lib.hid hw2
  have HS := Lib.hid hs
  have HS2 := Lib.hid hs2
  have HN := Lib.hid hn
  have HRES := Lib.hid hres
  have HTS := Lib.hid hts
  have HIN := Lib.hid hI
  have HE := Lib.hid he
  clear z1 hw1 hw2 hs hs1 hs2 hn hres hts hI he l12
  go_enter Tryz.func25, Tryz.ntmps25
  go_upto_region 1 with fail
  rw [← HW.out]
  go_cut [15, 16, 17] (fun v lv iv wx => iv = .int .i64 0 ∧ lv = .int .i64 ((n : Int) + 1) ∧ (∃ g cap, v = .slice (some ⟨g, 0, none⟩) (n + 1) cap) ∧ SRw wx v (q.al :: ss) ∧ Below w1.heap.size w1 wx)
  case first =>
    by_cases h0 : ss = []
    · have hn0 : n = 0 := by rw [← HN.out, h0]; rfl
      obtain ⟨pc, hpc⟩ : ∃ pc, pc = c := ⟨_, rfl⟩
      subst hn0
      go_wp2_with (at_builtin; rw [← HW2.out]; refine wpList_append_zero (o := ⟨some 15, _, _, _, _, _⟩) rfl _ _ 27 rfl 9 i0 Tryz.underlying27 hi0 _ _ _ rfl (Nat.le_refl 1) _ _ rfl ?_)
      go_meet
      refine ⟨rfl, rfl, ⟨_, _, rfl⟩, ?_, ?_⟩
      · rw [h0]; exact srw_blk A2
      · rw [HW2.out]; exact (Below.refl _ _).alloc (Nat.le_refl _) _
    · have hpos : 0 < n := by rw [← HN.out]; exact List.length_pos_iff.2 h0
      have hlen : 0 < ss.length := List.length_pos_iff.2 h0
      obtain ⟨L, o, rfl, _⟩ := srw_get HS2.out hlen
      have hcap : n ≤ c := by
        rcases HS2.out with ⟨h, _⟩ | ⟨_, L', o', c', h1, h2, h3⟩
        · exact absurd h h0
        · injection h1 with _ _ h1; subst h1; rw [HN.out] at h2; exact h2
      have hnews : ∀ j u, (ss.map Value.string)[j]? = some u → w2.cell? ((⟨L, o, none⟩ : Addr).add j) = some u := fun j u hj => by
        rw [List.getElem?_map] at hj
        cases hm : ss[j]? with
        | none => rw [hm] at hj; cases hj
        | some y =>
          rw [hm] at hj
          injection hj with hj
          subst hj
          obtain ⟨q1, q2⟩ := List.getElem?_eq_some_iff.1 hm
          obtain ⟨L', o', e', hc⟩ := srw_get HS2.out q1
          cases e'
          rw [Addr.add_lit, hc, q2]
      have HNW := Lib.hid hnews
      have HR2 := Lib.hid r2
      clear hnews r2 h0
      go_wp2_with (at_builtin; rw [← HW2.out]; refine wpList_append_lies (o := ⟨some 15, _, _, _, _, _⟩) _ rfl _ _ 27 rfl w1.heap.size 9 i0 (.string ⟨#[]⟩) 1 16 Tryz.underlying27 hi0 hz0 hz1 hz2 rfl (by decide) _ _ _ rfl HR2.out ⟨L, o, none⟩ n c (ss.map Value.string) rfl (by rw [List.length_map]; have := HN.out; omega) HNW.out (by intro u hu; obtain ⟨y, _, rfl⟩ := List.mem_map.1 hu; rfl) hpos (by unfold maxLen; omega) (by omega) (by omega) _ rfl ?_; intro g cap2 w3 hown3 hgr hat hg2)
      have hl3 : Below w1.heap.size w1 w3 := by
        have h12 : Below w1.heap.size w1 w2 := by rw [HW2.out]; exact (Below.refl _ _).alloc (Nat.le_refl _) _
        exact h12.grown hgr hz12 (fun j hj => (HR2.out.lt j hj).1)
      have hsr : SRw w3 (.slice (some ⟨g, 0, none⟩) (q.al :: ss).length cap2) (q.al :: ss) := by
        have h := hown3
        rw [show [Value.string q.al] ++ ss.map Value.string = (q.al :: ss).map Value.string from rfl] at h
        have hc : 1 + n = (q.al :: ss).length := by rw [List.length_cons, HN.out]; omega
        rw [hc] at h
        exact (srow_of h).rw
      have HSR := Lib.hid hsr
      have HL3 := Lib.hid hl3
      clear hown3 hgr hat hg2 hsr hl3
      go_wp2_with fail
      go_meet
      have e1 : 1 + n = n + 1 := by omega
      refine ⟨rfl, ?_, ⟨g, cap2, ?_⟩, ?_, HL3.out⟩
      · simp; omega
      · rw [e1]
      · have := HSR.out
        rw [List.length_cons, HN.out] at this
        rw [e1]; exact this
  case rest =>
    obtain ⟨rfl, rfl, ⟨g, cap, rfl⟩, hsr, bc⟩ := hcut
    have lc := l1.trans (bc.mono l1.size)
    replace B1 := B1.below bc
    have HSR := Lib.hid hsr
    have hzc := lc.size
    have hltc : w.heap.size < wc.heap.size := B1.lt
    clear y0 y2 y2' A2 r2 l2 B2 hsr HS2
    go_wp2_with fail
    go_loop [17] (fun t => ∃ k : Nat, t = .int .i64 k ∧ k ≤ n + 1 ∧ ∀ j (hj : j < (q.al :: ss).length), j < k → isTokL (txt (q.al :: ss)[j]) = true) (fun t => n + 1 - (intOf t).toNat)
    case atStart => exact ⟨0, rfl, Nat.zero_le _, fun j hj h => by omega⟩
    case round =>
      obtain ⟨k, rfl, hk, hall⟩ := hrel
      have HALL := Lib.hid hall
      have hlen : (q.al :: ss).length = n + 1 := by rw [List.length_cons, HN.out]
      clear hall
      by_cases hlt : k < n + 1
      · have hkl : k < (q.al :: ss).length := by rw [hlen]; exact hlt
        obtain ⟨L', o', e', hck⟩ := srw_get HSR.out hkl
        cases e'
        have hxs := HTS.out _ (List.getElem_mem hkl)
        have HX := Lib.hid (show ∀ x, x = (q.al :: ss)[k] → isTokL (txt x) = true → ∀ j (hj : j < (q.al :: ss).length), j < k + 1 → isTokL (txt (q.al :: ss)[j]) = true from fun x hx ht j hj h => by
          by_cases e : j = k
          · subst e; rw [← hx]; exact ht
          · exact HALL.out j hj (by omega))
        have HY := Lib.hid (show ∀ x, x = (q.al :: ss)[k] → isTokL (txt x) = false → res = ([], 2) from fun x hx ht => by
          rw [HRES.out]
          refine plantT_bad fun h => ?_
          have hm : x ∈ q.al :: ss := by rw [hx]; exact List.getElem_mem hkl
          rw [Bool.and_eq_true] at h
          rcases List.mem_cons.1 hm with e | hm
          · have := h.1; rw [show (q.pl (ss.map txt)).alphabet = txt x by rw [e]; rfl, ht] at this; cases this
          · have := List.all_eq_true.1 h.2 (txt x) (List.mem_map.2 ⟨x, hm, rfl⟩); rw [ht] at this; cases this)
        obtain ⟨x, hx⟩ : ∃ x, x = (q.al :: ss)[k] := ⟨_, rfl⟩
        rw [← hx] at hck hxs
        rw [Nat.zero_add] at hck
        have HXE := Lib.hid hx
        have HT := Lib.hid (isTok_any x)
        clear hx hlen
        cases ht : isTokL (txt x) with
        | false =>
          rw [ht] at HT
          have hr := HY.out x HXE.out ht
          subst hr
          clear ht
          go_wp2_with (go_at_call 48; (with_reducible refine (HT.out _ hxs).mono ?_); rintro ex wz ⟨rfl, rfl⟩)
          go_ret2
          exact ⟨lc, _, rfl, rfl⟩
        | true =>
          rw [ht] at HT
          have hnx := HX.out x HXE.out ht
          have HNX := Lib.hid hnx
          clear ht hnx
          go_wp2_with (go_at_call 48; (with_reducible refine (HT.out _ hxs).mono ?_); rintro ex wz ⟨rfl, rfl⟩)
          go_round
          case rel => exact ⟨k + 1, by go_num, by omega, HNX.out⟩
          case measure => simp [intOf]; omega
      · have hkn : k = n + 1 := by omega
        have hres2 : res = ((plantLines (q.pl (ss.map txt))).flatMap (· ++ [10]), 0) := by
          rw [HRES.out]
          refine plantT_good ?_ ?_
          · exact HALL.out 0 (by rw [hlen]; omega) (by omega)
          · rw [List.all_eq_true]
            intro t ht
            obtain ⟨y, hy, rfl⟩ := List.mem_map.1 ht
            obtain ⟨i, hi, rfl⟩ := List.getElem_of_mem hy
            exact HALL.out (i + 1) (by rw [hlen, ← HN.out]; omega) (by rw [hkn, ← HN.out]; omega)
        subst hkn
        have HR := Lib.hid hres2
        have hdl : decide (((n + 1 : Nat) : Int) < ((n : Int) + 1)) = false := decide_eq_false (by omega)
        clear hres2 hlen HALL HRES HSR
        have BP := B1
        have y4 : wc.cell? ⟨w.heap.size, 4, none⟩ = some (.int .i64 q.rows) := (BP.cell 4).trans rfl
        have y5 : wc.cell? ⟨w.heap.size, 5, none⟩ = some (.int .i64 q.cols) := (BP.cell 5).trans rfl
        have y6 : wc.cell? ⟨w.heap.size, 6, none⟩ = some (.int .i64 q.ream) := (BP.cell 6).trans rfl
        have y7 : wc.cell? ⟨w.heap.size, 7, none⟩ = some (.int .i64 q.bundle) := (BP.cell 7).trans rfl
        have y8 : wc.cell? ⟨w.heap.size, 8, none⟩ = some (.bool q.dn) := (BP.cell 8).trans rfl
        obtain ⟨u0, hu0⟩ : ∃ u0, u0 = wc.alloc (.cells #[.int .i64 q.rows, .int .i64 q.cols, .int .i64 q.ream, .int .i64 q.bundle, .bool q.dn] 31) := ⟨_, rfl⟩
        have bu0 : Below wc.heap.size wc u0 := by rw [hu0]; exact (Below.refl _ _).alloc (Nat.le_refl _) _
        have BL : Blk u0 wc.heap.size #[.int .i64 q.rows, .int .i64 q.cols, .int .i64 q.ream, .int .i64 q.bundle, .bool q.dn] 31 := by rw [hu0]; exact Blk.new wc _ _
        have k0 := lc.trans (bu0.mono lc.size)
        replace BP := BP.below bu0
        have HU0 := Lib.hid hu0
        clear hu0
        go_upto_region 8 with fail
        rw [← HU0.out]
        clear y4 y5 y6 y7 y8
        obtain ⟨says, hsays⟩ : ∃ says : Nat → Say, says = fun i => ([.val (.pointer (some ⟨w.heap.size, 0, none⟩)), .val (.pointer (some ⟨w.heap.size, 0, none⟩)), .val (.string q.al), .one q.al, .str (joinB 32 pAlphabet [txt q.al]), .val (.pointer (some ⟨w.heap.size, 0, none⟩)), .val (.pointer (some ⟨w.heap.size, 1, none⟩)), .val (.int .i64 q.ln), .row [q.ln], .str (lineT pLength [q.ln]), .val (.pointer (some ⟨w.heap.size, 0, none⟩)), .val (.pointer (some ⟨w.heap.size, 2, none⟩)), .val (.slice p n c), .str (joinB 32 pBanned (ss.map txt)), .val (.pointer (some ⟨w.heap.size, 0, none⟩)), .val (.pointer (some ⟨w.heap.size, 3, none⟩)), .val (.bool q.ck), .val (.int .i64 (bit q.ck)), .row [(bit q.ck)], .str (lineT pCheck [(bit q.ck)]), .val (.pointer (some ⟨wc.heap.size, 0, none⟩)), .val (.int .i64 q.rows), .val (.pointer (some ⟨wc.heap.size, 1, none⟩)), .val (.int .i64 q.cols), .val (.pointer (some ⟨wc.heap.size, 2, none⟩)), .val (.int .i64 q.ream), .val (.pointer (some ⟨wc.heap.size, 3, none⟩)), .val (.int .i64 q.bundle), .val (.pointer (some ⟨wc.heap.size, 4, none⟩)), .val (.bool q.dn), .val (.int .i64 (bit q.dn)), .row [q.rows, q.cols, q.ream, q.bundle, (bit q.dn)], .str (lineT pLayout [q.rows, q.cols, q.ream, q.bundle, (bit q.dn)]), .val (.pointer (some ⟨w.heap.size, 9, none⟩)), .val (.pointer (some ⟨w.heap.size, 9, none⟩)), .val (.int .i64 q.reprint), .val (.pointer (some ⟨w.heap.size, 9, none⟩)), .val (.pointer (some ⟨w.heap.size, 10, none⟩)), .val (.int .i64 q.star), .val (.pointer (some ⟨w.heap.size, 9, none⟩)), .val (.pointer (some ⟨w.heap.size, 11, none⟩)), .val (.int .i64 q.opn), .row [q.reprint, q.star, q.opn], .str (lineT pCosts [q.reprint, q.star, q.opn]), .val (.pointer (some ⟨w.heap.size, 12, none⟩)), .val (.int .i64 q.sheets), .row [q.sheets], .str (lineT pSheets [q.sheets]), .val (.pointer (some ⟨w.heap.size, 13, none⟩)), .val (.int .i64 q.presses), .row [q.presses], .str (lineT pPresses [q.presses]), .val (.pointer (some ⟨w.heap.size, 14, none⟩)), .val (.int .i64 q.life), .row [q.life], .str (lineT pLife [q.life]), .val (.pointer (some ⟨w.heap.size, 15, none⟩)), .val (.int .i64 q.plates), .row [q.plates], .str (lineT pPlates [q.plates]), .val (.pointer (some ⟨w.heap.size, 16, none⟩)), .val (.int .i64 q.dry), .row [q.dry], .str (lineT pDry [q.dry]), .val (.pointer (some ⟨w.heap.size, 17, none⟩)), .val (.int .i64 q.vaults), .row [q.vaults], .str (lineT pVaults [q.vaults]), .val (.pointer (some ⟨w.heap.size, 18, none⟩)), .val (.int .i64 q.blocks), .row [q.blocks], .str (lineT pBlocks [q.blocks]), .rows (plantLines (q.pl (ss.map txt))), .rows (plantLines (q.pl (ss.map txt)))] : List Say).getD i (.val undef) := ⟨_, rfl⟩
        refine region_open ?_
        intro ops hops a0 ha0
        have hfine : fineOps ops a0.tmps.size = true := by rw [hops, ha0]; kernel_rfl
        have nd1 : noDst ops 1 = true := by rw [hops]; kernel_rfl
        have nd6 : noDst ops 6 = true := by rw [hops]; kernel_rfl
        have e1 : a0.eval (.tmp 1) = .pointer (some ⟨w.heap.size, 0, none⟩) := by rw [ha0]; rfl
        have e6 : a0.eval (.tmp 6) = .pointer (some ⟨wc.heap.size, 0, none⟩) := by rw [ha0]; rfl
        have hsize : ops.size = 74 := by rw [hops]; rfl
        have hs0 : says 0 = .val (.pointer (some ⟨w.heap.size, 0, none⟩)) := by rw [hsays]; rfl
        have hs1 : says 1 = .val (.pointer (some ⟨w.heap.size, 0, none⟩)) := by rw [hsays]; rfl
        have hs2 : says 2 = .val (.string q.al) := by rw [hsays]; rfl
        have hs3 : says 3 = .one q.al := by rw [hsays]; rfl
        have hs4 : says 4 = .str (joinB 32 pAlphabet [txt q.al]) := by rw [hsays]; rfl
        have hs5 : says 5 = .val (.pointer (some ⟨w.heap.size, 0, none⟩)) := by rw [hsays]; rfl
        have hs6 : says 6 = .val (.pointer (some ⟨w.heap.size, 1, none⟩)) := by rw [hsays]; rfl
        have hs7 : says 7 = .val (.int .i64 q.ln) := by rw [hsays]; rfl
        have hs8 : says 8 = .row [q.ln] := by rw [hsays]; rfl
        have hs9 : says 9 = .str (lineT pLength [q.ln]) := by rw [hsays]; rfl
        have hs10 : says 10 = .val (.pointer (some ⟨w.heap.size, 0, none⟩)) := by rw [hsays]; rfl
        have hs11 : says 11 = .val (.pointer (some ⟨w.heap.size, 2, none⟩)) := by rw [hsays]; rfl
        have hs12 : says 12 = .val (.slice p n c) := by rw [hsays]; rfl
        have hs13 : says 13 = .str (joinB 32 pBanned (ss.map txt)) := by rw [hsays]; rfl
        have hs14 : says 14 = .val (.pointer (some ⟨w.heap.size, 0, none⟩)) := by rw [hsays]; rfl
        have hs15 : says 15 = .val (.pointer (some ⟨w.heap.size, 3, none⟩)) := by rw [hsays]; rfl
        have hs16 : says 16 = .val (.bool q.ck) := by rw [hsays]; rfl
        have hs17 : says 17 = .val (.int .i64 (bit q.ck)) := by rw [hsays]; rfl
        have hs18 : says 18 = .row [(bit q.ck)] := by rw [hsays]; rfl
        have hs19 : says 19 = .str (lineT pCheck [(bit q.ck)]) := by rw [hsays]; rfl
        have hs20 : says 20 = .val (.pointer (some ⟨wc.heap.size, 0, none⟩)) := by rw [hsays]; rfl
        have hs21 : says 21 = .val (.int .i64 q.rows) := by rw [hsays]; rfl
        have hs22 : says 22 = .val (.pointer (some ⟨wc.heap.size, 1, none⟩)) := by rw [hsays]; rfl
        have hs23 : says 23 = .val (.int .i64 q.cols) := by rw [hsays]; rfl
        have hs24 : says 24 = .val (.pointer (some ⟨wc.heap.size, 2, none⟩)) := by rw [hsays]; rfl
        have hs25 : says 25 = .val (.int .i64 q.ream) := by rw [hsays]; rfl
        have hs26 : says 26 = .val (.pointer (some ⟨wc.heap.size, 3, none⟩)) := by rw [hsays]; rfl
        have hs27 : says 27 = .val (.int .i64 q.bundle) := by rw [hsays]; rfl
        have hs28 : says 28 = .val (.pointer (some ⟨wc.heap.size, 4, none⟩)) := by rw [hsays]; rfl
        have hs29 : says 29 = .val (.bool q.dn) := by rw [hsays]; rfl
        have hs30 : says 30 = .val (.int .i64 (bit q.dn)) := by rw [hsays]; rfl
        have hs31 : says 31 = .row [q.rows, q.cols, q.ream, q.bundle, (bit q.dn)] := by rw [hsays]; rfl
        have hs32 : says 32 = .str (lineT pLayout [q.rows, q.cols, q.ream, q.bundle, (bit q.dn)]) := by rw [hsays]; rfl
        have hs33 : says 33 = .val (.pointer (some ⟨w.heap.size, 9, none⟩)) := by rw [hsays]; rfl
        have hs34 : says 34 = .val (.pointer (some ⟨w.heap.size, 9, none⟩)) := by rw [hsays]; rfl
        have hs35 : says 35 = .val (.int .i64 q.reprint) := by rw [hsays]; rfl
        have hs36 : says 36 = .val (.pointer (some ⟨w.heap.size, 9, none⟩)) := by rw [hsays]; rfl
        have hs37 : says 37 = .val (.pointer (some ⟨w.heap.size, 10, none⟩)) := by rw [hsays]; rfl
        have hs38 : says 38 = .val (.int .i64 q.star) := by rw [hsays]; rfl
        have hs39 : says 39 = .val (.pointer (some ⟨w.heap.size, 9, none⟩)) := by rw [hsays]; rfl
        have hs40 : says 40 = .val (.pointer (some ⟨w.heap.size, 11, none⟩)) := by rw [hsays]; rfl
        have hs41 : says 41 = .val (.int .i64 q.opn) := by rw [hsays]; rfl
        have hs42 : says 42 = .row [q.reprint, q.star, q.opn] := by rw [hsays]; rfl
        have hs43 : says 43 = .str (lineT pCosts [q.reprint, q.star, q.opn]) := by rw [hsays]; rfl
        have hs44 : says 44 = .val (.pointer (some ⟨w.heap.size, 12, none⟩)) := by rw [hsays]; rfl
        have hs45 : says 45 = .val (.int .i64 q.sheets) := by rw [hsays]; rfl
        have hs46 : says 46 = .row [q.sheets] := by rw [hsays]; rfl
        have hs47 : says 47 = .str (lineT pSheets [q.sheets]) := by rw [hsays]; rfl
        have hs48 : says 48 = .val (.pointer (some ⟨w.heap.size, 13, none⟩)) := by rw [hsays]; rfl
        have hs49 : says 49 = .val (.int .i64 q.presses) := by rw [hsays]; rfl
        have hs50 : says 50 = .row [q.presses] := by rw [hsays]; rfl
        have hs51 : says 51 = .str (lineT pPresses [q.presses]) := by rw [hsays]; rfl
        have hs52 : says 52 = .val (.pointer (some ⟨w.heap.size, 14, none⟩)) := by rw [hsays]; rfl
        have hs53 : says 53 = .val (.int .i64 q.life) := by rw [hsays]; rfl
        have hs54 : says 54 = .row [q.life] := by rw [hsays]; rfl
        have hs55 : says 55 = .str (lineT pLife [q.life]) := by rw [hsays]; rfl
        have hs56 : says 56 = .val (.pointer (some ⟨w.heap.size, 15, none⟩)) := by rw [hsays]; rfl
        have hs57 : says 57 = .val (.int .i64 q.plates) := by rw [hsays]; rfl
        have hs58 : says 58 = .row [q.plates] := by rw [hsays]; rfl
        have hs59 : says 59 = .str (lineT pPlates [q.plates]) := by rw [hsays]; rfl
        have hs60 : says 60 = .val (.pointer (some ⟨w.heap.size, 16, none⟩)) := by rw [hsays]; rfl
        have hs61 : says 61 = .val (.int .i64 q.dry) := by rw [hsays]; rfl
        have hs62 : says 62 = .row [q.dry] := by rw [hsays]; rfl
        have hs63 : says 63 = .str (lineT pDry [q.dry]) := by rw [hsays]; rfl
        have hs64 : says 64 = .val (.pointer (some ⟨w.heap.size, 17, none⟩)) := by rw [hsays]; rfl
        have hs65 : says 65 = .val (.int .i64 q.vaults) := by rw [hsays]; rfl
        have hs66 : says 66 = .row [q.vaults] := by rw [hsays]; rfl
        have hs67 : says 67 = .str (lineT pVaults [q.vaults]) := by rw [hsays]; rfl
        have hs68 : says 68 = .val (.pointer (some ⟨w.heap.size, 18, none⟩)) := by rw [hsays]; rfl
        have hs69 : says 69 = .val (.int .i64 q.blocks) := by rw [hsays]; rfl
        have hs70 : says 70 = .row [q.blocks] := by rw [hsays]; rfl
        have hs71 : says 71 = .str (lineT pBlocks [q.blocks]) := by rw [hsays]; rfl
        have hs72 : says 72 = .rows (plantLines (q.pl (ss.map txt))) := by rw [hsays]; rfl
        have hs73 : says 73 = .rows (plantLines (q.pl (ss.map txt))) := by rw [hsays]; rfl
        have h0 : OpIs ops 0 (.fieldAddr 35 (.tmp 1) 0) 27 [] := by rw [hops]; exact ⟨_, rfl, rfl, rfl, depsOk_spec (by kernel_rfl)⟩
        have h1 : OpIs ops 1 (.fieldAddr 29 (.tmp 27) 0) 28 [0] := by rw [hops]; exact ⟨_, rfl, rfl, rfl, depsOk_spec (by kernel_rfl)⟩
        have h2 : OpIs ops 2 (.load 9 (.tmp 28)) 29 [1] := by rw [hops]; exact ⟨_, rfl, rfl, rfl, depsOk_spec (by kernel_rfl)⟩
        have h3 : OpIs ops 3 (.buildSlice 27 1 #[(0, .tmp 29)]) 30 [2] := by rw [hops]; exact ⟨_, rfl, rfl, rfl, depsOk_spec (by kernel_rfl)⟩
        have h4 : OpIs ops 4 (.call { callee := .value (.func 42), args := #[.const (.string ⟨#[97, 108, 112, 104, 97, 98, 101, 116]⟩), .const (.slice none 0 0), .tmp 30], argTypes := #[9, 22, 27] }) 31 [3] := by rw [hops]; exact ⟨_, rfl, rfl, rfl, depsOk_spec (by kernel_rfl)⟩
        have h5 : OpIs ops 5 (.fieldAddr 35 (.tmp 1) 0) 32 [] := by rw [hops]; exact ⟨_, rfl, rfl, rfl, depsOk_spec (by kernel_rfl)⟩
        have h6 : OpIs ops 6 (.fieldAddr 29 (.tmp 32) 1) 33 [5] := by rw [hops]; exact ⟨_, rfl, rfl, rfl, depsOk_spec (by kernel_rfl)⟩
        have h7 : OpIs ops 7 (.load 3 (.tmp 33)) 34 [6] := by rw [hops]; exact ⟨_, rfl, rfl, rfl, depsOk_spec (by kernel_rfl)⟩
        have h8 : OpIs ops 8 (.buildSlice 22 1 #[(0, .tmp 34)]) 35 [7] := by rw [hops]; exact ⟨_, rfl, rfl, rfl, depsOk_spec (by kernel_rfl)⟩
        have h9 : OpIs ops 9 (.call { callee := .value (.func 42), args := #[.const (.string ⟨#[108, 101, 110, 103, 116, 104]⟩), .tmp 35, .const (.slice none 0 0)], argTypes := #[9, 22, 27] }) 36 [8] := by rw [hops]; exact ⟨_, rfl, rfl, rfl, depsOk_spec (by kernel_rfl)⟩
        have h10 : OpIs ops 10 (.fieldAddr 35 (.tmp 1) 0) 37 [] := by rw [hops]; exact ⟨_, rfl, rfl, rfl, depsOk_spec (by kernel_rfl)⟩
        have h11 : OpIs ops 11 (.fieldAddr 29 (.tmp 37) 2) 38 [10] := by rw [hops]; exact ⟨_, rfl, rfl, rfl, depsOk_spec (by kernel_rfl)⟩
        have h12 : OpIs ops 12 (.load 27 (.tmp 38)) 39 [11] := by rw [hops]; exact ⟨_, rfl, rfl, rfl, depsOk_spec (by kernel_rfl)⟩
        have h13 : OpIs ops 13 (.call { callee := .value (.func 42), args := #[.const (.string ⟨#[98, 97, 110, 110, 101, 100]⟩), .const (.slice none 0 0), .tmp 39], argTypes := #[9, 22, 27] }) 40 [12] := by rw [hops]; exact ⟨_, rfl, rfl, rfl, depsOk_spec (by kernel_rfl)⟩
        have h14 : OpIs ops 14 (.fieldAddr 35 (.tmp 1) 0) 41 [] := by rw [hops]; exact ⟨_, rfl, rfl, rfl, depsOk_spec (by kernel_rfl)⟩
        have h15 : OpIs ops 15 (.fieldAddr 29 (.tmp 41) 3) 42 [14] := by rw [hops]; exact ⟨_, rfl, rfl, rfl, depsOk_spec (by kernel_rfl)⟩
        have h16 : OpIs ops 16 (.load 4 (.tmp 42)) 43 [15] := by rw [hops]; exact ⟨_, rfl, rfl, rfl, depsOk_spec (by kernel_rfl)⟩
        have h17 : OpIs ops 17 (.call { callee := .value (.func 51), args := #[.tmp 43], argTypes := #[4] }) 44 [16] := by rw [hops]; exact ⟨_, rfl, rfl, rfl, depsOk_spec (by kernel_rfl)⟩
        have h18 : OpIs ops 18 (.buildSlice 22 1 #[(0, .tmp 44)]) 45 [17] := by rw [hops]; exact ⟨_, rfl, rfl, rfl, depsOk_spec (by kernel_rfl)⟩
        have h19 : OpIs ops 19 (.call { callee := .value (.func 42), args := #[.const (.string ⟨#[99, 104, 101, 99, 107]⟩), .tmp 45, .const (.slice none 0 0)], argTypes := #[9, 22, 27] }) 46 [18] := by rw [hops]; exact ⟨_, rfl, rfl, rfl, depsOk_spec (by kernel_rfl)⟩
        have h20 : OpIs ops 20 (.fieldAddr 31 (.tmp 6) 0) 47 [] := by rw [hops]; exact ⟨_, rfl, rfl, rfl, depsOk_spec (by kernel_rfl)⟩
        have h21 : OpIs ops 21 (.load 3 (.tmp 47)) 48 [20] := by rw [hops]; exact ⟨_, rfl, rfl, rfl, depsOk_spec (by kernel_rfl)⟩
        have h22 : OpIs ops 22 (.fieldAddr 31 (.tmp 6) 1) 49 [] := by rw [hops]; exact ⟨_, rfl, rfl, rfl, depsOk_spec (by kernel_rfl)⟩
        have h23 : OpIs ops 23 (.load 3 (.tmp 49)) 50 [22] := by rw [hops]; exact ⟨_, rfl, rfl, rfl, depsOk_spec (by kernel_rfl)⟩
        have h24 : OpIs ops 24 (.fieldAddr 31 (.tmp 6) 2) 51 [] := by rw [hops]; exact ⟨_, rfl, rfl, rfl, depsOk_spec (by kernel_rfl)⟩
        have h25 : OpIs ops 25 (.load 3 (.tmp 51)) 52 [24] := by rw [hops]; exact ⟨_, rfl, rfl, rfl, depsOk_spec (by kernel_rfl)⟩
        have h26 : OpIs ops 26 (.fieldAddr 31 (.tmp 6) 3) 53 [] := by rw [hops]; exact ⟨_, rfl, rfl, rfl, depsOk_spec (by kernel_rfl)⟩
        have h27 : OpIs ops 27 (.load 3 (.tmp 53)) 54 [26] := by rw [hops]; exact ⟨_, rfl, rfl, rfl, depsOk_spec (by kernel_rfl)⟩
        have h28 : OpIs ops 28 (.fieldAddr 31 (.tmp 6) 4) 55 [] := by rw [hops]; exact ⟨_, rfl, rfl, rfl, depsOk_spec (by kernel_rfl)⟩
        have h29 : OpIs ops 29 (.load 4 (.tmp 55)) 56 [28] := by rw [hops]; exact ⟨_, rfl, rfl, rfl, depsOk_spec (by kernel_rfl)⟩
        have h30 : OpIs ops 30 (.call { callee := .value (.func 51), args := #[.tmp 56], argTypes := #[4] }) 57 [29] := by rw [hops]; exact ⟨_, rfl, rfl, rfl, depsOk_spec (by kernel_rfl)⟩
        have h31 : OpIs ops 31 (.buildSlice 22 5 #[(0, .tmp 48), (1, .tmp 50), (2, .tmp 52), (3, .tmp 54), (4, .tmp 57)]) 58 [21, 23, 25, 27, 30] := by rw [hops]; exact ⟨_, rfl, rfl, rfl, depsOk_spec (by kernel_rfl)⟩
        have h32 : OpIs ops 32 (.call { callee := .value (.func 42), args := #[.const (.string ⟨#[108, 97, 121, 111, 117, 116]⟩), .tmp 58, .const (.slice none 0 0)], argTypes := #[9, 22, 27] }) 59 [31] := by rw [hops]; exact ⟨_, rfl, rfl, rfl, depsOk_spec (by kernel_rfl)⟩
        have h33 : OpIs ops 33 (.fieldAddr 35 (.tmp 1) 2) 60 [] := by rw [hops]; exact ⟨_, rfl, rfl, rfl, depsOk_spec (by kernel_rfl)⟩
        have h34 : OpIs ops 34 (.fieldAddr 33 (.tmp 60) 0) 61 [33] := by rw [hops]; exact ⟨_, rfl, rfl, rfl, depsOk_spec (by kernel_rfl)⟩
        have h35 : OpIs ops 35 (.load 3 (.tmp 61)) 62 [34] := by rw [hops]; exact ⟨_, rfl, rfl, rfl, depsOk_spec (by kernel_rfl)⟩
        have h36 : OpIs ops 36 (.fieldAddr 35 (.tmp 1) 2) 63 [] := by rw [hops]; exact ⟨_, rfl, rfl, rfl, depsOk_spec (by kernel_rfl)⟩
        have h37 : OpIs ops 37 (.fieldAddr 33 (.tmp 63) 1) 64 [36] := by rw [hops]; exact ⟨_, rfl, rfl, rfl, depsOk_spec (by kernel_rfl)⟩
        have h38 : OpIs ops 38 (.load 3 (.tmp 64)) 65 [37] := by rw [hops]; exact ⟨_, rfl, rfl, rfl, depsOk_spec (by kernel_rfl)⟩
        have h39 : OpIs ops 39 (.fieldAddr 35 (.tmp 1) 2) 66 [] := by rw [hops]; exact ⟨_, rfl, rfl, rfl, depsOk_spec (by kernel_rfl)⟩
        have h40 : OpIs ops 40 (.fieldAddr 33 (.tmp 66) 2) 67 [39] := by rw [hops]; exact ⟨_, rfl, rfl, rfl, depsOk_spec (by kernel_rfl)⟩
        have h41 : OpIs ops 41 (.load 3 (.tmp 67)) 68 [40] := by rw [hops]; exact ⟨_, rfl, rfl, rfl, depsOk_spec (by kernel_rfl)⟩
        have h42 : OpIs ops 42 (.buildSlice 22 3 #[(0, .tmp 62), (1, .tmp 65), (2, .tmp 68)]) 69 [35, 38, 41] := by rw [hops]; exact ⟨_, rfl, rfl, rfl, depsOk_spec (by kernel_rfl)⟩
        have h43 : OpIs ops 43 (.call { callee := .value (.func 42), args := #[.const (.string ⟨#[99, 111, 115, 116, 115]⟩), .tmp 69, .const (.slice none 0 0)], argTypes := #[9, 22, 27] }) 70 [42] := by rw [hops]; exact ⟨_, rfl, rfl, rfl, depsOk_spec (by kernel_rfl)⟩
        have h44 : OpIs ops 44 (.fieldAddr 35 (.tmp 1) 3) 71 [] := by rw [hops]; exact ⟨_, rfl, rfl, rfl, depsOk_spec (by kernel_rfl)⟩
        have h45 : OpIs ops 45 (.load 3 (.tmp 71)) 72 [44] := by rw [hops]; exact ⟨_, rfl, rfl, rfl, depsOk_spec (by kernel_rfl)⟩
        have h46 : OpIs ops 46 (.buildSlice 22 1 #[(0, .tmp 72)]) 73 [45] := by rw [hops]; exact ⟨_, rfl, rfl, rfl, depsOk_spec (by kernel_rfl)⟩
        have h47 : OpIs ops 47 (.call { callee := .value (.func 42), args := #[.const (.string ⟨#[115, 104, 101, 101, 116, 115]⟩), .tmp 73, .const (.slice none 0 0)], argTypes := #[9, 22, 27] }) 74 [46] := by rw [hops]; exact ⟨_, rfl, rfl, rfl, depsOk_spec (by kernel_rfl)⟩
        have h48 : OpIs ops 48 (.fieldAddr 35 (.tmp 1) 4) 75 [] := by rw [hops]; exact ⟨_, rfl, rfl, rfl, depsOk_spec (by kernel_rfl)⟩
        have h49 : OpIs ops 49 (.load 3 (.tmp 75)) 76 [48] := by rw [hops]; exact ⟨_, rfl, rfl, rfl, depsOk_spec (by kernel_rfl)⟩
        have h50 : OpIs ops 50 (.buildSlice 22 1 #[(0, .tmp 76)]) 77 [49] := by rw [hops]; exact ⟨_, rfl, rfl, rfl, depsOk_spec (by kernel_rfl)⟩
        have h51 : OpIs ops 51 (.call { callee := .value (.func 42), args := #[.const (.string ⟨#[112, 114, 101, 115, 115, 101, 115]⟩), .tmp 77, .const (.slice none 0 0)], argTypes := #[9, 22, 27] }) 78 [50] := by rw [hops]; exact ⟨_, rfl, rfl, rfl, depsOk_spec (by kernel_rfl)⟩
        have h52 : OpIs ops 52 (.fieldAddr 35 (.tmp 1) 5) 79 [] := by rw [hops]; exact ⟨_, rfl, rfl, rfl, depsOk_spec (by kernel_rfl)⟩
        have h53 : OpIs ops 53 (.load 3 (.tmp 79)) 80 [52] := by rw [hops]; exact ⟨_, rfl, rfl, rfl, depsOk_spec (by kernel_rfl)⟩
        have h54 : OpIs ops 54 (.buildSlice 22 1 #[(0, .tmp 80)]) 81 [53] := by rw [hops]; exact ⟨_, rfl, rfl, rfl, depsOk_spec (by kernel_rfl)⟩
        have h55 : OpIs ops 55 (.call { callee := .value (.func 42), args := #[.const (.string ⟨#[108, 105, 102, 101]⟩), .tmp 81, .const (.slice none 0 0)], argTypes := #[9, 22, 27] }) 82 [54] := by rw [hops]; exact ⟨_, rfl, rfl, rfl, depsOk_spec (by kernel_rfl)⟩
        have h56 : OpIs ops 56 (.fieldAddr 35 (.tmp 1) 6) 83 [] := by rw [hops]; exact ⟨_, rfl, rfl, rfl, depsOk_spec (by kernel_rfl)⟩
        have h57 : OpIs ops 57 (.load 3 (.tmp 83)) 84 [56] := by rw [hops]; exact ⟨_, rfl, rfl, rfl, depsOk_spec (by kernel_rfl)⟩
        have h58 : OpIs ops 58 (.buildSlice 22 1 #[(0, .tmp 84)]) 85 [57] := by rw [hops]; exact ⟨_, rfl, rfl, rfl, depsOk_spec (by kernel_rfl)⟩
        have h59 : OpIs ops 59 (.call { callee := .value (.func 42), args := #[.const (.string ⟨#[112, 108, 97, 116, 101, 115]⟩), .tmp 85, .const (.slice none 0 0)], argTypes := #[9, 22, 27] }) 86 [58] := by rw [hops]; exact ⟨_, rfl, rfl, rfl, depsOk_spec (by kernel_rfl)⟩
        have h60 : OpIs ops 60 (.fieldAddr 35 (.tmp 1) 7) 87 [] := by rw [hops]; exact ⟨_, rfl, rfl, rfl, depsOk_spec (by kernel_rfl)⟩
        have h61 : OpIs ops 61 (.load 3 (.tmp 87)) 88 [60] := by rw [hops]; exact ⟨_, rfl, rfl, rfl, depsOk_spec (by kernel_rfl)⟩
        have h62 : OpIs ops 62 (.buildSlice 22 1 #[(0, .tmp 88)]) 89 [61] := by rw [hops]; exact ⟨_, rfl, rfl, rfl, depsOk_spec (by kernel_rfl)⟩
        have h63 : OpIs ops 63 (.call { callee := .value (.func 42), args := #[.const (.string ⟨#[100, 114, 121]⟩), .tmp 89, .const (.slice none 0 0)], argTypes := #[9, 22, 27] }) 90 [62] := by rw [hops]; exact ⟨_, rfl, rfl, rfl, depsOk_spec (by kernel_rfl)⟩
        have h64 : OpIs ops 64 (.fieldAddr 35 (.tmp 1) 8) 91 [] := by rw [hops]; exact ⟨_, rfl, rfl, rfl, depsOk_spec (by kernel_rfl)⟩
        have h65 : OpIs ops 65 (.load 3 (.tmp 91)) 92 [64] := by rw [hops]; exact ⟨_, rfl, rfl, rfl, depsOk_spec (by kernel_rfl)⟩
        have h66 : OpIs ops 66 (.buildSlice 22 1 #[(0, .tmp 92)]) 93 [65] := by rw [hops]; exact ⟨_, rfl, rfl, rfl, depsOk_spec (by kernel_rfl)⟩
        have h67 : OpIs ops 67 (.call { callee := .value (.func 42), args := #[.const (.string ⟨#[118, 97, 117, 108, 116, 115]⟩), .tmp 93, .const (.slice none 0 0)], argTypes := #[9, 22, 27] }) 94 [66] := by rw [hops]; exact ⟨_, rfl, rfl, rfl, depsOk_spec (by kernel_rfl)⟩
        have h68 : OpIs ops 68 (.fieldAddr 35 (.tmp 1) 9) 95 [] := by rw [hops]; exact ⟨_, rfl, rfl, rfl, depsOk_spec (by kernel_rfl)⟩
        have h69 : OpIs ops 69 (.load 3 (.tmp 95)) 96 [68] := by rw [hops]; exact ⟨_, rfl, rfl, rfl, depsOk_spec (by kernel_rfl)⟩
        have h70 : OpIs ops 70 (.buildSlice 22 1 #[(0, .tmp 96)]) 97 [69] := by rw [hops]; exact ⟨_, rfl, rfl, rfl, depsOk_spec (by kernel_rfl)⟩
        have h71 : OpIs ops 71 (.call { callee := .value (.func 42), args := #[.const (.string ⟨#[98, 108, 111, 99, 107, 115]⟩), .tmp 97, .const (.slice none 0 0)], argTypes := #[9, 22, 27] }) 98 [70] := by rw [hops]; exact ⟨_, rfl, rfl, rfl, depsOk_spec (by kernel_rfl)⟩
        have h72 : OpIs ops 72 (.buildSlice 27 13 #[(0, .tmp 31), (1, .tmp 36), (2, .tmp 40), (3, .tmp 46), (4, .tmp 59), (5, .tmp 70), (6, .tmp 74), (7, .tmp 78), (8, .tmp 82), (9, .tmp 86), (10, .tmp 90), (11, .tmp 94), (12, .tmp 98)]) 99 [4, 9, 13, 19, 32, 43, 47, 51, 55, 59, 63, 67, 71] := by rw [hops]; exact ⟨_, rfl, rfl, rfl, depsOk_spec (by kernel_rfl)⟩
        have h73 : OpIs ops 73 (.assign (.tmp 99)) 7 [72] := by rw [hops]; exact ⟨_, rfl, rfl, rfl, depsOk_spec (by kernel_rfl)⟩
        refine wp_region_all follows_mixed hfine (GS says) (fun i v w w' => (says i).stable) ?_ ?_
        · have hall : ∀ i, i < 74 → ∀ Q, Ok Tryz.prog ops Q says a0 u0 i := by
            have q0 : ∀ Q, Ok Tryz.prog ops Q says a0 u0 0 := fun Q => ok_field (R := w.heap.size) (o1 := 0) (o2 := 0) h0 nd1 e1 (fun _ => by kernel_rfl) hs0
            have q1 : ∀ Q, Ok Tryz.prog ops Q says a0 u0 1 := fun Q => ok_field2 (R := w.heap.size) (o1 := 0) (o2 := 0) h1 h0.dst hs0 (fun _ => by kernel_rfl) hs1
            have q2 : ∀ Q, Ok Tryz.prog ops Q says a0 u0 2 := fun Q => ok_load (p := .pointer (some ⟨w.heap.size, 0, none⟩)) (v := .string q.al) h2 h1.dst hs1 (fun W bW => ld9 _ _ _ _ (cell_below ((BP.cell 0).trans rfl) bW)) hs2
            have q3 : ∀ Q, Ok Tryz.prog ops Q says a0 u0 3 := fun Q => ok_val h3 (fun ρ => Instr.buildSlice 27 1 ((#[(0, .tmp 29)] : Array (Nat × Operand)).map fun (k, x) => (k, ρ x))) (fun ρ o ho => by unfold execOp; rw [ho]) fun a w hc => by
              have e0 : a.eval (.tmp 29) = .string q.al := hc.val (by simp) h2.dst hs2
              have hp : ((#[(0, .tmp 29)] : Array (Nat × Operand)).map fun (k, x) => (k, a.eval x)) = #[(0, .string q.al)] := by simp [e0]
              rw [hp]
              exact ⟨.slice (some ⟨w.heap.size, 0, none⟩) 1 1, w.alloc (.cells #[.string q.al] 9), by kernel_rfl, by rw [hs3]; exact ⟨_, rfl, Blk.new w _ _⟩, alloc_below w _⟩
            have q4 : ∀ Q, Ok Tryz.prog ops Q says a0 u0 4 := fun Q => ok_call h4 fun o a w ho hc => ⟨_, ent3 (enters_of Tryz.func42 (by kernel_rfl) rfl) _ _ _ _ a o w ho, by
              rw [eval_const, eval_const]
              have lw := k0.trans (hc.below.mono k0.size)
              obtain ⟨D, e0, hB⟩ := hc.one (by simp) h3.dst hs3
              rw [e0]
              exact (joinS (tab_below HE.out lw) (wd := ⟨#[97, 108, 112, 104, 97, 98, 101, 116]⟩) (srw_blk hB) (by simp) (by show q.al.size + 0 ≤ 5000; omega) (by decide)).mono fun e w' ⟨b, s, h1, h2⟩ => ⟨b, _, h1, by rw [hs4]; exact ⟨s, rfl, h2⟩⟩⟩
            have q5 : ∀ Q, Ok Tryz.prog ops Q says a0 u0 5 := fun Q => ok_field (R := w.heap.size) (o1 := 0) (o2 := 0) h5 nd1 e1 (fun _ => by kernel_rfl) hs5
            have q6 : ∀ Q, Ok Tryz.prog ops Q says a0 u0 6 := fun Q => ok_field2 (R := w.heap.size) (o1 := 0) (o2 := 1) h6 h5.dst hs5 (fun _ => by kernel_rfl) hs6
            have q7 : ∀ Q, Ok Tryz.prog ops Q says a0 u0 7 := fun Q => ok_load (p := .pointer (some ⟨w.heap.size, 1, none⟩)) (v := .int .i64 q.ln) h7 h6.dst hs6 (fun W bW => ld3 _ _ _ _ (cell_below ((BP.cell 1).trans rfl) bW)) hs7
            have q8 : ∀ Q, Ok Tryz.prog ops Q says a0 u0 8 := fun Q => ok_row (lits := #[(0, .int .i64 q.ln)]) (l := [q.ln]) h8 (fun a w hc => by have e0 : a.eval (.tmp 34) = .int .i64 q.ln := hc.val (by simp) h7.dst hs7; simp [e0]) (fun _ => by kernel_rfl) hs8
            have q9 : ∀ Q, Ok Tryz.prog ops Q says a0 u0 9 := fun Q => ok_call h9 fun o a w ho hc => ⟨_, ent3 (enters_of Tryz.func42 (by kernel_rfl) rfl) _ _ _ _ a o w ho, by
              rw [eval_const, eval_const]
              have lw := k0.trans (hc.below.mono k0.size)
              obtain ⟨D, e0, hB⟩ := hc.row (by simp) h8.dst hs8
              rw [e0]
              exact (joinN (tab_below HE.out lw) (wd := ⟨#[108, 101, 110, 103, 116, 104]⟩) (xs := [q.ln]) hB (by simp) (by intro m hm; have hI := HIN.out; unfold PV.pl Pl.ints at hI; simp only [List.mem_cons, List.not_mem_nil, or_false] at hm; rcases hm with rfl <;> first | exact bit_i64 _ | exact hI _ (by simp)) (by simp) (by decide)).mono fun e w' ⟨b, s, h1, h2⟩ => ⟨b, _, h1, by rw [hs9]; exact ⟨s, rfl, h2⟩⟩⟩
            have q10 : ∀ Q, Ok Tryz.prog ops Q says a0 u0 10 := fun Q => ok_field (R := w.heap.size) (o1 := 0) (o2 := 0) h10 nd1 e1 (fun _ => by kernel_rfl) hs10
            have q11 : ∀ Q, Ok Tryz.prog ops Q says a0 u0 11 := fun Q => ok_field2 (R := w.heap.size) (o1 := 0) (o2 := 2) h11 h10.dst hs10 (fun _ => by kernel_rfl) hs11
            have q12 : ∀ Q, Ok Tryz.prog ops Q says a0 u0 12 := fun Q => ok_load (p := .pointer (some ⟨w.heap.size, 2, none⟩)) (v := .slice p n c) h12 h11.dst hs11 (fun W bW => ld27 _ _ _ _ (cell_below ((BP.cell 2).trans rfl) bW)) hs12
            have q13 : ∀ Q, Ok Tryz.prog ops Q says a0 u0 13 := fun Q => ok_call h13 fun o a w ho hc => ⟨_, ent3 (enters_of Tryz.func42 (by kernel_rfl) rfl) _ _ _ _ a o w ho, by
              rw [eval_const, eval_const]
              have lw := k0.trans (hc.below.mono k0.size)
              have e0 : a.eval (.tmp 39) = .slice p n c := hc.val (by simp) h12.dst hs12
              rw [e0]
              exact (joinS (tab_below HE.out lw) (wd := ⟨#[98, 97, 110, 110, 101, 100]⟩) (HS.out.below lw) (by rw [HN.out]; exact hl) hbs.1 (by decide)).mono fun e w' ⟨b, s, h1, h2⟩ => ⟨b, _, h1, by rw [hs13]; exact ⟨s, rfl, h2⟩⟩⟩
            have q14 : ∀ Q, Ok Tryz.prog ops Q says a0 u0 14 := fun Q => ok_field (R := w.heap.size) (o1 := 0) (o2 := 0) h14 nd1 e1 (fun _ => by kernel_rfl) hs14
            have q15 : ∀ Q, Ok Tryz.prog ops Q says a0 u0 15 := fun Q => ok_field2 (R := w.heap.size) (o1 := 0) (o2 := 3) h15 h14.dst hs14 (fun _ => by kernel_rfl) hs15
            have q16 : ∀ Q, Ok Tryz.prog ops Q says a0 u0 16 := fun Q => ok_load (p := .pointer (some ⟨w.heap.size, 3, none⟩)) (v := .bool q.ck) h16 h15.dst hs15 (fun W bW => ld4 _ _ _ _ (cell_below ((BP.cell 3).trans rfl) bW)) hs16
            have q17 : ∀ Q, Ok Tryz.prog ops Q says a0 u0 17 := fun Q => ok_call h17 fun o a w ho hc => ⟨_, ent1 (enters_of Tryz.func51 (by kernel_rfl) rfl) _ _ a o w ho, by
              have e0 : a.eval (.tmp 43) = .bool q.ck := hc.val (by simp) h16.dst hs16
              rw [e0]
              exact (bit_any q.ck w).mono fun e w' ⟨h1, h2⟩ => ⟨by rw [h2]; exact Below.refl _ _, _, h1, by rw [hs17]; rfl⟩⟩
            have q18 : ∀ Q, Ok Tryz.prog ops Q says a0 u0 18 := fun Q => ok_row (lits := #[(0, .int .i64 (bit q.ck))]) (l := [(bit q.ck)]) h18 (fun a w hc => by have e0 : a.eval (.tmp 44) = .int .i64 (bit q.ck) := hc.val (by simp) h17.dst hs17; simp [e0]) (fun _ => by kernel_rfl) hs18
            have q19 : ∀ Q, Ok Tryz.prog ops Q says a0 u0 19 := fun Q => ok_call h19 fun o a w ho hc => ⟨_, ent3 (enters_of Tryz.func42 (by kernel_rfl) rfl) _ _ _ _ a o w ho, by
              rw [eval_const, eval_const]
              have lw := k0.trans (hc.below.mono k0.size)
              obtain ⟨D, e0, hB⟩ := hc.row (by simp) h18.dst hs18
              rw [e0]
              exact (joinN (tab_below HE.out lw) (wd := ⟨#[99, 104, 101, 99, 107]⟩) (xs := [(bit q.ck)]) hB (by simp) (by intro m hm; have hI := HIN.out; unfold PV.pl Pl.ints at hI; simp only [List.mem_cons, List.not_mem_nil, or_false] at hm; rcases hm with rfl <;> first | exact bit_i64 _ | exact hI _ (by simp)) (by simp) (by decide)).mono fun e w' ⟨b, s, h1, h2⟩ => ⟨b, _, h1, by rw [hs19]; exact ⟨s, rfl, h2⟩⟩⟩
            have q20 : ∀ Q, Ok Tryz.prog ops Q says a0 u0 20 := fun Q => ok_field (R := wc.heap.size) (o1 := 0) (o2 := 0) h20 nd6 e6 (fun _ => by kernel_rfl) hs20
            have q21 : ∀ Q, Ok Tryz.prog ops Q says a0 u0 21 := fun Q => ok_load (p := .pointer (some ⟨wc.heap.size, 0, none⟩)) (v := .int .i64 q.rows) h21 h20.dst hs20 (fun W bW => ld3 _ _ _ _ (cell_below ((BL.cell 0).trans rfl) bW)) hs21
            have q22 : ∀ Q, Ok Tryz.prog ops Q says a0 u0 22 := fun Q => ok_field (R := wc.heap.size) (o1 := 0) (o2 := 1) h22 nd6 e6 (fun _ => by kernel_rfl) hs22
            have q23 : ∀ Q, Ok Tryz.prog ops Q says a0 u0 23 := fun Q => ok_load (p := .pointer (some ⟨wc.heap.size, 1, none⟩)) (v := .int .i64 q.cols) h23 h22.dst hs22 (fun W bW => ld3 _ _ _ _ (cell_below ((BL.cell 1).trans rfl) bW)) hs23
            have q24 : ∀ Q, Ok Tryz.prog ops Q says a0 u0 24 := fun Q => ok_field (R := wc.heap.size) (o1 := 0) (o2 := 2) h24 nd6 e6 (fun _ => by kernel_rfl) hs24
            have q25 : ∀ Q, Ok Tryz.prog ops Q says a0 u0 25 := fun Q => ok_load (p := .pointer (some ⟨wc.heap.size, 2, none⟩)) (v := .int .i64 q.ream) h25 h24.dst hs24 (fun W bW => ld3 _ _ _ _ (cell_below ((BL.cell 2).trans rfl) bW)) hs25
            have q26 : ∀ Q, Ok Tryz.prog ops Q says a0 u0 26 := fun Q => ok_field (R := wc.heap.size) (o1 := 0) (o2 := 3) h26 nd6 e6 (fun _ => by kernel_rfl) hs26
            have q27 : ∀ Q, Ok Tryz.prog ops Q says a0 u0 27 := fun Q => ok_load (p := .pointer (some ⟨wc.heap.size, 3, none⟩)) (v := .int .i64 q.bundle) h27 h26.dst hs26 (fun W bW => ld3 _ _ _ _ (cell_below ((BL.cell 3).trans rfl) bW)) hs27
            have q28 : ∀ Q, Ok Tryz.prog ops Q says a0 u0 28 := fun Q => ok_field (R := wc.heap.size) (o1 := 0) (o2 := 4) h28 nd6 e6 (fun _ => by kernel_rfl) hs28
            have q29 : ∀ Q, Ok Tryz.prog ops Q says a0 u0 29 := fun Q => ok_load (p := .pointer (some ⟨wc.heap.size, 4, none⟩)) (v := .bool q.dn) h29 h28.dst hs28 (fun W bW => ld4 _ _ _ _ (cell_below ((BL.cell 4).trans rfl) bW)) hs29
            have q30 : ∀ Q, Ok Tryz.prog ops Q says a0 u0 30 := fun Q => ok_call h30 fun o a w ho hc => ⟨_, ent1 (enters_of Tryz.func51 (by kernel_rfl) rfl) _ _ a o w ho, by
              have e0 : a.eval (.tmp 56) = .bool q.dn := hc.val (by simp) h29.dst hs29
              rw [e0]
              exact (bit_any q.dn w).mono fun e w' ⟨h1, h2⟩ => ⟨by rw [h2]; exact Below.refl _ _, _, h1, by rw [hs30]; rfl⟩⟩
            have q31 : ∀ Q, Ok Tryz.prog ops Q says a0 u0 31 := fun Q => ok_row (lits := #[(0, .int .i64 q.rows), (1, .int .i64 q.cols), (2, .int .i64 q.ream), (3, .int .i64 q.bundle), (4, .int .i64 (bit q.dn))]) (l := [q.rows, q.cols, q.ream, q.bundle, (bit q.dn)]) h31 (fun a w hc => by have e0 : a.eval (.tmp 48) = .int .i64 q.rows := hc.val (by simp) h21.dst hs21; have e1 : a.eval (.tmp 50) = .int .i64 q.cols := hc.val (by simp) h23.dst hs23; have e2 : a.eval (.tmp 52) = .int .i64 q.ream := hc.val (by simp) h25.dst hs25; have e3 : a.eval (.tmp 54) = .int .i64 q.bundle := hc.val (by simp) h27.dst hs27; have e4 : a.eval (.tmp 57) = .int .i64 (bit q.dn) := hc.val (by simp) h30.dst hs30; simp [e0, e1, e2, e3, e4]) (fun _ => by kernel_rfl) hs31
            have q32 : ∀ Q, Ok Tryz.prog ops Q says a0 u0 32 := fun Q => ok_call h32 fun o a w ho hc => ⟨_, ent3 (enters_of Tryz.func42 (by kernel_rfl) rfl) _ _ _ _ a o w ho, by
              rw [eval_const, eval_const]
              have lw := k0.trans (hc.below.mono k0.size)
              obtain ⟨D, e0, hB⟩ := hc.row (by simp) h31.dst hs31
              rw [e0]
              exact (joinN (tab_below HE.out lw) (wd := ⟨#[108, 97, 121, 111, 117, 116]⟩) (xs := [q.rows, q.cols, q.ream, q.bundle, (bit q.dn)]) hB (by simp) (by intro m hm; have hI := HIN.out; unfold PV.pl Pl.ints at hI; simp only [List.mem_cons, List.not_mem_nil, or_false] at hm; rcases hm with rfl | rfl | rfl | rfl | rfl <;> first | exact bit_i64 _ | exact hI _ (by simp)) (by simp) (by decide)).mono fun e w' ⟨b, s, h1, h2⟩ => ⟨b, _, h1, by rw [hs32]; exact ⟨s, rfl, h2⟩⟩⟩
            have q33 : ∀ Q, Ok Tryz.prog ops Q says a0 u0 33 := fun Q => ok_field (R := w.heap.size) (o1 := 0) (o2 := 9) h33 nd1 e1 (fun _ => by kernel_rfl) hs33
            have q34 : ∀ Q, Ok Tryz.prog ops Q says a0 u0 34 := fun Q => ok_field2 (R := w.heap.size) (o1 := 9) (o2 := 9) h34 h33.dst hs33 (fun _ => by kernel_rfl) hs34
            have q35 : ∀ Q, Ok Tryz.prog ops Q says a0 u0 35 := fun Q => ok_load (p := .pointer (some ⟨w.heap.size, 9, none⟩)) (v := .int .i64 q.reprint) h35 h34.dst hs34 (fun W bW => ld3 _ _ _ _ (cell_below ((BP.cell 9).trans rfl) bW)) hs35
            have q36 : ∀ Q, Ok Tryz.prog ops Q says a0 u0 36 := fun Q => ok_field (R := w.heap.size) (o1 := 0) (o2 := 9) h36 nd1 e1 (fun _ => by kernel_rfl) hs36
            have q37 : ∀ Q, Ok Tryz.prog ops Q says a0 u0 37 := fun Q => ok_field2 (R := w.heap.size) (o1 := 9) (o2 := 10) h37 h36.dst hs36 (fun _ => by kernel_rfl) hs37
            have q38 : ∀ Q, Ok Tryz.prog ops Q says a0 u0 38 := fun Q => ok_load (p := .pointer (some ⟨w.heap.size, 10, none⟩)) (v := .int .i64 q.star) h38 h37.dst hs37 (fun W bW => ld3 _ _ _ _ (cell_below ((BP.cell 10).trans rfl) bW)) hs38
            have q39 : ∀ Q, Ok Tryz.prog ops Q says a0 u0 39 := fun Q => ok_field (R := w.heap.size) (o1 := 0) (o2 := 9) h39 nd1 e1 (fun _ => by kernel_rfl) hs39
            have q40 : ∀ Q, Ok Tryz.prog ops Q says a0 u0 40 := fun Q => ok_field2 (R := w.heap.size) (o1 := 9) (o2 := 11) h40 h39.dst hs39 (fun _ => by kernel_rfl) hs40
            have q41 : ∀ Q, Ok Tryz.prog ops Q says a0 u0 41 := fun Q => ok_load (p := .pointer (some ⟨w.heap.size, 11, none⟩)) (v := .int .i64 q.opn) h41 h40.dst hs40 (fun W bW => ld3 _ _ _ _ (cell_below ((BP.cell 11).trans rfl) bW)) hs41
            have q42 : ∀ Q, Ok Tryz.prog ops Q says a0 u0 42 := fun Q => ok_row (lits := #[(0, .int .i64 q.reprint), (1, .int .i64 q.star), (2, .int .i64 q.opn)]) (l := [q.reprint, q.star, q.opn]) h42 (fun a w hc => by have e0 : a.eval (.tmp 62) = .int .i64 q.reprint := hc.val (by simp) h35.dst hs35; have e1 : a.eval (.tmp 65) = .int .i64 q.star := hc.val (by simp) h38.dst hs38; have e2 : a.eval (.tmp 68) = .int .i64 q.opn := hc.val (by simp) h41.dst hs41; simp [e0, e1, e2]) (fun _ => by kernel_rfl) hs42
            have q43 : ∀ Q, Ok Tryz.prog ops Q says a0 u0 43 := fun Q => ok_call h43 fun o a w ho hc => ⟨_, ent3 (enters_of Tryz.func42 (by kernel_rfl) rfl) _ _ _ _ a o w ho, by
              rw [eval_const, eval_const]
              have lw := k0.trans (hc.below.mono k0.size)
              obtain ⟨D, e0, hB⟩ := hc.row (by simp) h42.dst hs42
              rw [e0]
              exact (joinN (tab_below HE.out lw) (wd := ⟨#[99, 111, 115, 116, 115]⟩) (xs := [q.reprint, q.star, q.opn]) hB (by simp) (by intro m hm; have hI := HIN.out; unfold PV.pl Pl.ints at hI; simp only [List.mem_cons, List.not_mem_nil, or_false] at hm; rcases hm with rfl | rfl | rfl <;> first | exact bit_i64 _ | exact hI _ (by simp)) (by simp) (by decide)).mono fun e w' ⟨b, s, h1, h2⟩ => ⟨b, _, h1, by rw [hs43]; exact ⟨s, rfl, h2⟩⟩⟩
            have q44 : ∀ Q, Ok Tryz.prog ops Q says a0 u0 44 := fun Q => ok_field (R := w.heap.size) (o1 := 0) (o2 := 12) h44 nd1 e1 (fun _ => by kernel_rfl) hs44
            have q45 : ∀ Q, Ok Tryz.prog ops Q says a0 u0 45 := fun Q => ok_load (p := .pointer (some ⟨w.heap.size, 12, none⟩)) (v := .int .i64 q.sheets) h45 h44.dst hs44 (fun W bW => ld3 _ _ _ _ (cell_below ((BP.cell 12).trans rfl) bW)) hs45
            have q46 : ∀ Q, Ok Tryz.prog ops Q says a0 u0 46 := fun Q => ok_row (lits := #[(0, .int .i64 q.sheets)]) (l := [q.sheets]) h46 (fun a w hc => by have e0 : a.eval (.tmp 72) = .int .i64 q.sheets := hc.val (by simp) h45.dst hs45; simp [e0]) (fun _ => by kernel_rfl) hs46
            have q47 : ∀ Q, Ok Tryz.prog ops Q says a0 u0 47 := fun Q => ok_call h47 fun o a w ho hc => ⟨_, ent3 (enters_of Tryz.func42 (by kernel_rfl) rfl) _ _ _ _ a o w ho, by
              rw [eval_const, eval_const]
              have lw := k0.trans (hc.below.mono k0.size)
              obtain ⟨D, e0, hB⟩ := hc.row (by simp) h46.dst hs46
              rw [e0]
              exact (joinN (tab_below HE.out lw) (wd := ⟨#[115, 104, 101, 101, 116, 115]⟩) (xs := [q.sheets]) hB (by simp) (by intro m hm; have hI := HIN.out; unfold PV.pl Pl.ints at hI; simp only [List.mem_cons, List.not_mem_nil, or_false] at hm; rcases hm with rfl <;> first | exact bit_i64 _ | exact hI _ (by simp)) (by simp) (by decide)).mono fun e w' ⟨b, s, h1, h2⟩ => ⟨b, _, h1, by rw [hs47]; exact ⟨s, rfl, h2⟩⟩⟩
            have q48 : ∀ Q, Ok Tryz.prog ops Q says a0 u0 48 := fun Q => ok_field (R := w.heap.size) (o1 := 0) (o2 := 13) h48 nd1 e1 (fun _ => by kernel_rfl) hs48
            have q49 : ∀ Q, Ok Tryz.prog ops Q says a0 u0 49 := fun Q => ok_load (p := .pointer (some ⟨w.heap.size, 13, none⟩)) (v := .int .i64 q.presses) h49 h48.dst hs48 (fun W bW => ld3 _ _ _ _ (cell_below ((BP.cell 13).trans rfl) bW)) hs49
            have q50 : ∀ Q, Ok Tryz.prog ops Q says a0 u0 50 := fun Q => ok_row (lits := #[(0, .int .i64 q.presses)]) (l := [q.presses]) h50 (fun a w hc => by have e0 : a.eval (.tmp 76) = .int .i64 q.presses := hc.val (by simp) h49.dst hs49; simp [e0]) (fun _ => by kernel_rfl) hs50
            have q51 : ∀ Q, Ok Tryz.prog ops Q says a0 u0 51 := fun Q => ok_call h51 fun o a w ho hc => ⟨_, ent3 (enters_of Tryz.func42 (by kernel_rfl) rfl) _ _ _ _ a o w ho, by
              rw [eval_const, eval_const]
              have lw := k0.trans (hc.below.mono k0.size)
              obtain ⟨D, e0, hB⟩ := hc.row (by simp) h50.dst hs50
              rw [e0]
              exact (joinN (tab_below HE.out lw) (wd := ⟨#[112, 114, 101, 115, 115, 101, 115]⟩) (xs := [q.presses]) hB (by simp) (by intro m hm; have hI := HIN.out; unfold PV.pl Pl.ints at hI; simp only [List.mem_cons, List.not_mem_nil, or_false] at hm; rcases hm with rfl <;> first | exact bit_i64 _ | exact hI _ (by simp)) (by simp) (by decide)).mono fun e w' ⟨b, s, h1, h2⟩ => ⟨b, _, h1, by rw [hs51]; exact ⟨s, rfl, h2⟩⟩⟩
            have q52 : ∀ Q, Ok Tryz.prog ops Q says a0 u0 52 := fun Q => ok_field (R := w.heap.size) (o1 := 0) (o2 := 14) h52 nd1 e1 (fun _ => by kernel_rfl) hs52
            have q53 : ∀ Q, Ok Tryz.prog ops Q says a0 u0 53 := fun Q => ok_load (p := .pointer (some ⟨w.heap.size, 14, none⟩)) (v := .int .i64 q.life) h53 h52.dst hs52 (fun W bW => ld3 _ _ _ _ (cell_below ((BP.cell 14).trans rfl) bW)) hs53
            have q54 : ∀ Q, Ok Tryz.prog ops Q says a0 u0 54 := fun Q => ok_row (lits := #[(0, .int .i64 q.life)]) (l := [q.life]) h54 (fun a w hc => by have e0 : a.eval (.tmp 80) = .int .i64 q.life := hc.val (by simp) h53.dst hs53; simp [e0]) (fun _ => by kernel_rfl) hs54
            have q55 : ∀ Q, Ok Tryz.prog ops Q says a0 u0 55 := fun Q => ok_call h55 fun o a w ho hc => ⟨_, ent3 (enters_of Tryz.func42 (by kernel_rfl) rfl) _ _ _ _ a o w ho, by
              rw [eval_const, eval_const]
              have lw := k0.trans (hc.below.mono k0.size)
              obtain ⟨D, e0, hB⟩ := hc.row (by simp) h54.dst hs54
              rw [e0]
              exact (joinN (tab_below HE.out lw) (wd := ⟨#[108, 105, 102, 101]⟩) (xs := [q.life]) hB (by simp) (by intro m hm; have hI := HIN.out; unfold PV.pl Pl.ints at hI; simp only [List.mem_cons, List.not_mem_nil, or_false] at hm; rcases hm with rfl <;> first | exact bit_i64 _ | exact hI _ (by simp)) (by simp) (by decide)).mono fun e w' ⟨b, s, h1, h2⟩ => ⟨b, _, h1, by rw [hs55]; exact ⟨s, rfl, h2⟩⟩⟩
            have q56 : ∀ Q, Ok Tryz.prog ops Q says a0 u0 56 := fun Q => ok_field (R := w.heap.size) (o1 := 0) (o2 := 15) h56 nd1 e1 (fun _ => by kernel_rfl) hs56
            have q57 : ∀ Q, Ok Tryz.prog ops Q says a0 u0 57 := fun Q => ok_load (p := .pointer (some ⟨w.heap.size, 15, none⟩)) (v := .int .i64 q.plates) h57 h56.dst hs56 (fun W bW => ld3 _ _ _ _ (cell_below ((BP.cell 15).trans rfl) bW)) hs57
            have q58 : ∀ Q, Ok Tryz.prog ops Q says a0 u0 58 := fun Q => ok_row (lits := #[(0, .int .i64 q.plates)]) (l := [q.plates]) h58 (fun a w hc => by have e0 : a.eval (.tmp 84) = .int .i64 q.plates := hc.val (by simp) h57.dst hs57; simp [e0]) (fun _ => by kernel_rfl) hs58
            have q59 : ∀ Q, Ok Tryz.prog ops Q says a0 u0 59 := fun Q => ok_call h59 fun o a w ho hc => ⟨_, ent3 (enters_of Tryz.func42 (by kernel_rfl) rfl) _ _ _ _ a o w ho, by
              rw [eval_const, eval_const]
              have lw := k0.trans (hc.below.mono k0.size)
              obtain ⟨D, e0, hB⟩ := hc.row (by simp) h58.dst hs58
              rw [e0]
              exact (joinN (tab_below HE.out lw) (wd := ⟨#[112, 108, 97, 116, 101, 115]⟩) (xs := [q.plates]) hB (by simp) (by intro m hm; have hI := HIN.out; unfold PV.pl Pl.ints at hI; simp only [List.mem_cons, List.not_mem_nil, or_false] at hm; rcases hm with rfl <;> first | exact bit_i64 _ | exact hI _ (by simp)) (by simp) (by decide)).mono fun e w' ⟨b, s, h1, h2⟩ => ⟨b, _, h1, by rw [hs59]; exact ⟨s, rfl, h2⟩⟩⟩
            have q60 : ∀ Q, Ok Tryz.prog ops Q says a0 u0 60 := fun Q => ok_field (R := w.heap.size) (o1 := 0) (o2 := 16) h60 nd1 e1 (fun _ => by kernel_rfl) hs60
            have q61 : ∀ Q, Ok Tryz.prog ops Q says a0 u0 61 := fun Q => ok_load (p := .pointer (some ⟨w.heap.size, 16, none⟩)) (v := .int .i64 q.dry) h61 h60.dst hs60 (fun W bW => ld3 _ _ _ _ (cell_below ((BP.cell 16).trans rfl) bW)) hs61
            have q62 : ∀ Q, Ok Tryz.prog ops Q says a0 u0 62 := fun Q => ok_row (lits := #[(0, .int .i64 q.dry)]) (l := [q.dry]) h62 (fun a w hc => by have e0 : a.eval (.tmp 88) = .int .i64 q.dry := hc.val (by simp) h61.dst hs61; simp [e0]) (fun _ => by kernel_rfl) hs62
            have q63 : ∀ Q, Ok Tryz.prog ops Q says a0 u0 63 := fun Q => ok_call h63 fun o a w ho hc => ⟨_, ent3 (enters_of Tryz.func42 (by kernel_rfl) rfl) _ _ _ _ a o w ho, by
              rw [eval_const, eval_const]
              have lw := k0.trans (hc.below.mono k0.size)
              obtain ⟨D, e0, hB⟩ := hc.row (by simp) h62.dst hs62
              rw [e0]
              exact (joinN (tab_below HE.out lw) (wd := ⟨#[100, 114, 121]⟩) (xs := [q.dry]) hB (by simp) (by intro m hm; have hI := HIN.out; unfold PV.pl Pl.ints at hI; simp only [List.mem_cons, List.not_mem_nil, or_false] at hm; rcases hm with rfl <;> first | exact bit_i64 _ | exact hI _ (by simp)) (by simp) (by decide)).mono fun e w' ⟨b, s, h1, h2⟩ => ⟨b, _, h1, by rw [hs63]; exact ⟨s, rfl, h2⟩⟩⟩
            have q64 : ∀ Q, Ok Tryz.prog ops Q says a0 u0 64 := fun Q => ok_field (R := w.heap.size) (o1 := 0) (o2 := 17) h64 nd1 e1 (fun _ => by kernel_rfl) hs64
            have q65 : ∀ Q, Ok Tryz.prog ops Q says a0 u0 65 := fun Q => ok_load (p := .pointer (some ⟨w.heap.size, 17, none⟩)) (v := .int .i64 q.vaults) h65 h64.dst hs64 (fun W bW => ld3 _ _ _ _ (cell_below ((BP.cell 17).trans rfl) bW)) hs65
            have q66 : ∀ Q, Ok Tryz.prog ops Q says a0 u0 66 := fun Q => ok_row (lits := #[(0, .int .i64 q.vaults)]) (l := [q.vaults]) h66 (fun a w hc => by have e0 : a.eval (.tmp 92) = .int .i64 q.vaults := hc.val (by simp) h65.dst hs65; simp [e0]) (fun _ => by kernel_rfl) hs66
            have q67 : ∀ Q, Ok Tryz.prog ops Q says a0 u0 67 := fun Q => ok_call h67 fun o a w ho hc => ⟨_, ent3 (enters_of Tryz.func42 (by kernel_rfl) rfl) _ _ _ _ a o w ho, by
              rw [eval_const, eval_const]
              have lw := k0.trans (hc.below.mono k0.size)
              obtain ⟨D, e0, hB⟩ := hc.row (by simp) h66.dst hs66
              rw [e0]
              exact (joinN (tab_below HE.out lw) (wd := ⟨#[118, 97, 117, 108, 116, 115]⟩) (xs := [q.vaults]) hB (by simp) (by intro m hm; have hI := HIN.out; unfold PV.pl Pl.ints at hI; simp only [List.mem_cons, List.not_mem_nil, or_false] at hm; rcases hm with rfl <;> first | exact bit_i64 _ | exact hI _ (by simp)) (by simp) (by decide)).mono fun e w' ⟨b, s, h1, h2⟩ => ⟨b, _, h1, by rw [hs67]; exact ⟨s, rfl, h2⟩⟩⟩
            have q68 : ∀ Q, Ok Tryz.prog ops Q says a0 u0 68 := fun Q => ok_field (R := w.heap.size) (o1 := 0) (o2 := 18) h68 nd1 e1 (fun _ => by kernel_rfl) hs68
            have q69 : ∀ Q, Ok Tryz.prog ops Q says a0 u0 69 := fun Q => ok_load (p := .pointer (some ⟨w.heap.size, 18, none⟩)) (v := .int .i64 q.blocks) h69 h68.dst hs68 (fun W bW => ld3 _ _ _ _ (cell_below ((BP.cell 18).trans rfl) bW)) hs69
            have q70 : ∀ Q, Ok Tryz.prog ops Q says a0 u0 70 := fun Q => ok_row (lits := #[(0, .int .i64 q.blocks)]) (l := [q.blocks]) h70 (fun a w hc => by have e0 : a.eval (.tmp 96) = .int .i64 q.blocks := hc.val (by simp) h69.dst hs69; simp [e0]) (fun _ => by kernel_rfl) hs70
            have q71 : ∀ Q, Ok Tryz.prog ops Q says a0 u0 71 := fun Q => ok_call h71 fun o a w ho hc => ⟨_, ent3 (enters_of Tryz.func42 (by kernel_rfl) rfl) _ _ _ _ a o w ho, by
              rw [eval_const, eval_const]
              have lw := k0.trans (hc.below.mono k0.size)
              obtain ⟨D, e0, hB⟩ := hc.row (by simp) h70.dst hs70
              rw [e0]
              exact (joinN (tab_below HE.out lw) (wd := ⟨#[98, 108, 111, 99, 107, 115]⟩) (xs := [q.blocks]) hB (by simp) (by intro m hm; have hI := HIN.out; unfold PV.pl Pl.ints at hI; simp only [List.mem_cons, List.not_mem_nil, or_false] at hm; rcases hm with rfl <;> first | exact bit_i64 _ | exact hI _ (by simp)) (by simp) (by decide)).mono fun e w' ⟨b, s, h1, h2⟩ => ⟨b, _, h1, by rw [hs71]; exact ⟨s, rfl, h2⟩⟩⟩
            have q72 : ∀ Q, Ok Tryz.prog ops Q says a0 u0 72 := fun Q => ok_val h72 (fun ρ => Instr.buildSlice 27 13 ((#[(0, .tmp 31), (1, .tmp 36), (2, .tmp 40), (3, .tmp 46), (4, .tmp 59), (5, .tmp 70), (6, .tmp 74), (7, .tmp 78), (8, .tmp 82), (9, .tmp 86), (10, .tmp 90), (11, .tmp 94), (12, .tmp 98)] : Array (Nat × Operand)).map fun (k, x) => (k, ρ x))) (fun ρ o ho => by unfold execOp; rw [ho]) fun a w hc => by
              obtain ⟨s0, e0, t0⟩ := hc.str (by simp) h4.dst hs4
              obtain ⟨s1, e1, t1⟩ := hc.str (by simp) h9.dst hs9
              obtain ⟨s2, e2, t2⟩ := hc.str (by simp) h13.dst hs13
              obtain ⟨s3, e3, t3⟩ := hc.str (by simp) h19.dst hs19
              obtain ⟨s4, e4, t4⟩ := hc.str (by simp) h32.dst hs32
              obtain ⟨s5, e5, t5⟩ := hc.str (by simp) h43.dst hs43
              obtain ⟨s6, e6, t6⟩ := hc.str (by simp) h47.dst hs47
              obtain ⟨s7, e7, t7⟩ := hc.str (by simp) h51.dst hs51
              obtain ⟨s8, e8, t8⟩ := hc.str (by simp) h55.dst hs55
              obtain ⟨s9, e9, t9⟩ := hc.str (by simp) h59.dst hs59
              obtain ⟨s10, e10, t10⟩ := hc.str (by simp) h63.dst hs63
              obtain ⟨s11, e11, t11⟩ := hc.str (by simp) h67.dst hs67
              obtain ⟨s12, e12, t12⟩ := hc.str (by simp) h71.dst hs71
              have hp : ((#[(0, .tmp 31), (1, .tmp 36), (2, .tmp 40), (3, .tmp 46), (4, .tmp 59), (5, .tmp 70), (6, .tmp 74), (7, .tmp 78), (8, .tmp 82), (9, .tmp 86), (10, .tmp 90), (11, .tmp 94), (12, .tmp 98)] : Array (Nat × Operand)).map fun (k, x) => (k, a.eval x)) = #[(0, .string s0), (1, .string s1), (2, .string s2), (3, .string s3), (4, .string s4), (5, .string s5), (6, .string s6), (7, .string s7), (8, .string s8), (9, .string s9), (10, .string s10), (11, .string s11), (12, .string s12)] := by simp [e0, e1, e2, e3, e4, e5, e6, e7, e8, e9, e10, e11, e12]
              rw [hp]
              exact ⟨.slice (some ⟨w.heap.size, 0, none⟩) 13 13, w.alloc (.cells #[.string s0, .string s1, .string s2, .string s3, .string s4, .string s5, .string s6, .string s7, .string s8, .string s9, .string s10, .string s11, .string s12] 9), by kernel_rfl, by rw [hs72]; exact ⟨_, [s0, s1, s2, s3, s4, s5, s6, s7, s8, s9, s10, s11, s12], rfl, Blk.new w _ _, by simp only [List.map_cons, List.map_nil]; rw [t0, t1, t2, t3, t4, t5, t6, t7, t8, t9, t10, t11, t12]; rfl⟩, alloc_below w _⟩
            have q73 : ∀ Q, Ok Tryz.prog ops Q says a0 u0 73 := fun Q => ok_copy h73 (.inr rfl) h72.dst (by rw [hs73, hs72])
            intro i hi
            match i, hi with
            | 0, _ => exact q0
            | 1, _ => exact q1
            | 2, _ => exact q2
            | 3, _ => exact q3
            | 4, _ => exact q4
            | 5, _ => exact q5
            | 6, _ => exact q6
            | 7, _ => exact q7
            | 8, _ => exact q8
            | 9, _ => exact q9
            | 10, _ => exact q10
            | 11, _ => exact q11
            | 12, _ => exact q12
            | 13, _ => exact q13
            | 14, _ => exact q14
            | 15, _ => exact q15
            | 16, _ => exact q16
            | 17, _ => exact q17
            | 18, _ => exact q18
            | 19, _ => exact q19
            | 20, _ => exact q20
            | 21, _ => exact q21
            | 22, _ => exact q22
            | 23, _ => exact q23
            | 24, _ => exact q24
            | 25, _ => exact q25
            | 26, _ => exact q26
            | 27, _ => exact q27
            | 28, _ => exact q28
            | 29, _ => exact q29
            | 30, _ => exact q30
            | 31, _ => exact q31
            | 32, _ => exact q32
            | 33, _ => exact q33
            | 34, _ => exact q34
            | 35, _ => exact q35
            | 36, _ => exact q36
            | 37, _ => exact q37
            | 38, _ => exact q38
            | 39, _ => exact q39
            | 40, _ => exact q40
            | 41, _ => exact q41
            | 42, _ => exact q42
            | 43, _ => exact q43
            | 44, _ => exact q44
            | 45, _ => exact q45
            | 46, _ => exact q46
            | 47, _ => exact q47
            | 48, _ => exact q48
            | 49, _ => exact q49
            | 50, _ => exact q50
            | 51, _ => exact q51
            | 52, _ => exact q52
            | 53, _ => exact q53
            | 54, _ => exact q54
            | 55, _ => exact q55
            | 56, _ => exact q56
            | 57, _ => exact q57
            | 58, _ => exact q58
            | 59, _ => exact q59
            | 60, _ => exact q60
            | 61, _ => exact q61
            | 62, _ => exact q62
            | 63, _ => exact q63
            | 64, _ => exact q64
            | 65, _ => exact q65
            | 66, _ => exact q66
            | 67, _ => exact q67
            | 68, _ => exact q68
            | 69, _ => exact q69
            | 70, _ => exact q70
            | 71, _ => exact q71
            | 72, _ => exact q72
            | 73, _ => exact q73
            | i + 74, h => exact absurd h (by omega)
          intro i o ho
          exact hall i (by rw [← hsize]; exact (Array.getElem?_eq_some_iff.1 ho).1) _ o ho
        · intro vals u1 bu1 hsaid
          have hrows := hsaid 73 (by rw [hsize]; decide)
          have hrows : (says 73).holds (vals 73) u1 := hrows
          rw [hs73] at hrows
          obtain ⟨D, sl, ev, hB, htx⟩ := hrows
          have k1 := k0.trans (bu1.mono k0.size)
          rw [hsize]
          simp only [laid, if_true, h0.dst, h1.dst, h2.dst, h3.dst, h4.dst, h5.dst, h6.dst, h7.dst, h8.dst, h9.dst, h10.dst, h11.dst, h12.dst, h13.dst, h14.dst, h15.dst, h16.dst, h17.dst, h18.dst, h19.dst, h20.dst, h21.dst, h22.dst, h23.dst, h24.dst, h25.dst, h26.dst, h27.dst, h28.dst, h29.dst, h30.dst, h31.dst, h32.dst, h33.dst, h34.dst, h35.dst, h36.dst, h37.dst, h38.dst, h39.dst, h40.dst, h41.dst, h42.dst, h43.dst, h44.dst, h45.dst, h46.dst, h47.dst, h48.dst, h49.dst, h50.dst, h51.dst, h52.dst, h53.dst, h54.dst, h55.dst, h56.dst, h57.dst, h58.dst, h59.dst, h60.dst, h61.dst, h62.dst, h63.dst, h64.dst, h65.dst, h66.dst, h67.dst, h68.dst, h69.dst, h70.dst, h71.dst, h72.dst, h73.dst, ha0, Act.put]
          simp only [List.setIfInBounds_toArray, List.set_cons_succ, List.set_cons_zero]
          rw [ev]
          have hshort := lines_short2 HIN.out hbs.2 hbs.1 (by rw [HN.out]; exact hl)
          have hlen13 : sl.length = 13 := by have := congrArg List.length htx; rw [List.length_map, plantLines_13] at this; exact this
          obtain ⟨hj1, hj2⟩ := join_short (l := plantLines (q.pl (ss.map txt))) (by rw [ne_eq, ← List.length_eq_zero_iff, plantLines_13]; decide) hshort (by rw [plantLines_13]; decide)
          have hcells : ∀ (j : Nat) x, sl[j]? = some x → u1.cell? ⟨D, 0 + j, none⟩ = some (.string x) := fun j x hj => by
            rw [Nat.zero_add, hB.cell j]
            simp [hj]
          have HJ := Lib.hid (Tryz.strings_Join D 0 sl.length sl ⟨#[10]⟩ u1 hcells hB.lt (by omega) (Nat.le_refl _) (by show (Lib.join (sl.map txt) [10]).length ≤ _; rw [htx]; omega))
          obtain ⟨js, hjs⟩ : ∃ js : ByteArray, js = ⟨(Lib.join (sl.map (·.data.toList)) (⟨#[10]⟩ : ByteArray).data.toList).toArray⟩ := ⟨_, rfl⟩
          rw [← hjs] at HJ
          have hjt : txt js = Lib.join (plantLines (q.pl (ss.map txt))) [10] := by rw [hjs, ← htx]
          have hjz : js.size ≤ 600000 := by
            have : (txt js).length = js.size := by simp
            rw [← this, hjt]; exact hj1
          have hcat := cat_ok (a := js) (b := ⟨#[10]⟩) (by show js.size + 1 ≤ _; omega)
          have HJT := Lib.hid hjt
          have HJ2 := Lib.hid hj2
          clear hjt hjs hj1 hj2 hcells hB htx hshort h0 hs0 h1 hs1 h2 hs2 h3 hs3 h4 hs4 h5 hs5 h6 hs6 h7 hs7 h8 hs8 h9 hs9 h10 hs10 h11 hs11 h12 hs12 h13 hs13 h14 hs14 h15 hs15 h16 hs16 h17 hs17 h18 hs18 h19 hs19 h20 hs20 h21 hs21 h22 hs22 h23 hs23 h24 hs24 h25 hs25 h26 hs26 h27 hs27 h28 hs28 h29 hs29 h30 hs30 h31 hs31 h32 hs32 h33 hs33 h34 hs34 h35 hs35 h36 hs36 h37 hs37 h38 hs38 h39 hs39 h40 hs40 h41 hs41 h42 hs42 h43 hs43 h44 hs44 h45 hs45 h46 hs46 h47 hs47 h48 hs48 h49 hs49 h50 hs50 h51 hs51 h52 hs52 h53 hs53 h54 hs54 h55 hs55 h56 hs56 h57 hs57 h58 hs58 h59 hs59 h60 hs60 h61 hs61 h62 hs62 h63 hs63 h64 hs64 h65 hs65 h66 hs66 h67 hs67 h68 hs68 h69 hs69 h70 hs70 h71 hs71 h72 hs72 h73 hs73 hsaid hfine nd1 nd6 e1 e6 hsize hops ha0 hsays ev hjz hlen13 hbs hb hdl hk hlt hrows BL BP B1
          go_wp2_with fail
          refine HJ.out.mono ?_
          rintro ex u2 ⟨rfl, b2⟩
          go_wp2_with fail
          go_ret2
          unfold RetTE
          rw [HR.out]
          exact ⟨k1.trans (b2.mono k1.size), _, rfl, by rw [txt_append, HJT.out]; exact HJ2.out⟩
theorem plantText_any {w : World} (he : Tab7 w) {q : PV} {p : Option Addr} {n c : Nat} {ss : List ByteArray} (hs : SRw w (.slice p n c) ss) (hn : ss.length = n) (hl : n ≤ 100) (hb : bytesOf q.al ss ≤ 4000) (hI : ∀ m ∈ (q.pl (ss.map txt)).ints, I64 m) : Calls Tryz.prog 25 #[.agg (q.cells (.slice p n c))] w (RetTE w (plantT (q.pl (ss.map txt)))) := plantText_wide he hs hn (by omega) (by omega) hI
end Go.Proofs.YtddnmocoaahlfaaGreatDoor
