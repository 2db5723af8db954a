/-
  The readers of a plant's lines: those of one number. Conditions: the package-level variables hold what the program lays; short words.
  The readers of a plant's lines: alphabet, check, layout, costs; and the places of single numbers. Conditions: the package-level variables hold what the program lays; short words.
  The reader of a plant's banned words. Condition: the plant bans none yet; short words.
-/
import Derived.Test.YtddnmocoaahlfaaGreatDoorY14
import Derived.Test.YtddnmocoaahlfaaGreatDoorZr
import Derived.BigQuiet
import Derived.Deep.RegionHeld3
import Derived.Test.YtddnmocoaahlfaaGreatDoorY17
set_option linter.unusedVariables false
set_option linter.unusedSimpArgs false

namespace Go.Proofs.YtddnmocoaahlfaaGreatDoor
open Go.RowKit Go.Shelf
/-- A plant in its block. -/
structure PA (w : World) (R : Nat) (q : PV) (bv : Value) (ss : List ByteArray) : Prop where
  blk : Blk w R (q.cells bv) 35
  row : SRw w bv ss
  ne : ∀ L o m c, bv = .slice (some ⟨L, o, none⟩) m c → ss ≠ [] → R < L
  nl : ss = [] → bv = .slice none 0 0
theorem srw_stays {M : Nat → Prop} {w w' : World} {v : Value} {ss : List ByteArray} (h : SRw w v ss) (b : Stays M w w') (hM : ∀ L o m c, v = .slice (some ⟨L, o, none⟩) m c → ss ≠ [] → ¬ M L) : SRw w' v ss := by
  rcases h with h | ⟨h0, L, o, c, h1, h2, h3⟩
  · exact .inl h
  · refine .inr ⟨h0, L, o, c, h1, h2, fun j hj => ?_⟩
    have hc := h3 j hj
    exact (World.cell?_of_block (a := ⟨L, o + j, none⟩) (b.block L (World.block_lt_of_cell? w _ hc) (hM L o _ c h1 h0))).trans hc
/-- What reading a line ends in. -/
def RetRl (w : World) (R : Nat) (r : Option Pl) (e : Ending) (w' : World) : Prop := Stays (fun k => k = R) w w' ∧ match r with
  | none => e = .returned (.bool false)
  | some p => e = .returned (.bool true) ∧ ∃ q bv ss, PA w' R q bv ss ∧ q.pl (ss.map txt) = p
theorem PA.below {w w' : World} {R : Nat} {q : PV} {bv : Value} {ss : List ByteArray} (h : PA w R q bv ss) (b : Below w.heap.size w w') : PA w' R q bv ss := ⟨h.blk.below b, h.row.below b, h.ne, h.nl⟩
theorem one_none {l : List Int} {ps : List (List UInt8)} (h : undecAllL ps = some l) (hl : l.length ≠ 1) : oneL ps = none := by
  unfold oneL; rw [h]
  match l, hl with
  | [], _ => rfl
  | [_], h => exact absurd rfl h
  | _ :: _ :: _, _ => rfl
set_option maxRecDepth 100000 in
set_option maxHeartbeats 4000000 in
theorem single_any {w : World} (he : Env w) {R B ci : Nat} {acc : FuncId} {q : PV} {bv pv : Value} {ss ps : List ByteArray} {old : Int} {upd : PV → Int → PV} (hp : PA w R q bv ss) (hr : SRw w pv ps) (hl : ps.length ≤ 65536) (hsz : ∀ x ∈ ps, x.size ≤ 65536)
    (hB : w.cell? ⟨B, 0, none⟩ = some (.func (.func acc) #[] #[])) (hent : ∀ args w, (callFunc acc args).run Tryz.prog w = .ok (.enter acc args) w) (hacc : ∀ W, Calls Tryz.prog acc #[.pointer (some ⟨R, 0, none⟩)] W (fun e w' => e = .returned (.pointer (some ⟨R, ci, none⟩)) ∧ w' = W))
    (hc : (q.cells bv)[ci]? = some (.int .i64 old)) (hu : ∀ m, (q.cells bv).setIfInBounds ci (.int .i64 m) = (upd q m).cells bv) {f : Pl → Int → Pl} (hf : ∀ m, (upd q m).pl (ss.map txt) = f (q.pl (ss.map txt)) m) :
    Calls Tryz.prog 125 #[.pointer (some ⟨R, 0, none⟩), pv, .pointer (some ⟨B, 0, none⟩)] w (RetRl w R ((oneL (ps.map txt)).map (f (q.pl (ss.map txt))))) := by
  have HU := Lib.hid (undecAll_any he hr (by omega) hsz)
  obtain ⟨res, hres⟩ : ∃ res, res = (oneL (ps.map txt)).map (f (q.pl (ss.map txt))) := ⟨_, rfl⟩
  rw [← hres]
  have HRES := Lib.hid hres
  clear hres
  go_enter Tryz.func125, Tryz.ntmps125
  go_wp2_with fail
  refine HU.out.mono ?_
  rintro e w1 ⟨b1, h1⟩
  clear HU
  cases hun : undecAllL (ps.map txt) with
  | none =>
    rw [hun] at h1
    have hrn : res = none := by rw [HRES.out]; unfold oneL; rw [hun]; rfl
    subst h1
    subst hrn
    clear hun HRES hc hu hf hacc hent
    go_wp2_with fail
    go_ret
    exact ⟨.of b1, rfl⟩
  | some l =>
    rw [hun] at h1
    obtain ⟨v', rfl, hrow⟩ := h1
    by_cases hl1 : l.length = 1
    rotate_left
    · have hrn : res = none := by rw [HRES.out, one_none hun hl1]; rfl
      subst hrn
      obtain ⟨a', n', c', rfl, hlen⟩ : ∃ a n c, v' = .slice a n c ∧ n = l.length := by
        obtain ⟨a, c, h⟩ := (nrow_of hrow).form
        exact ⟨a, _, c, h, rfl⟩
      have d1 : ((n' : Int) != 1) = true := by simp; omega
      clear hun HRES hc hu hf hacc hent hlen hl1
      go_wp2_with fail
      go_ret
      exact ⟨.of b1, rfl⟩
    · obtain ⟨m, rfl⟩ : ∃ m, l = [m] := by
        match l, hl1 with
        | [m], _ => exact ⟨m, rfl⟩
      have hrs : res = some (f (q.pl (ss.map txt)) m) := by rw [HRES.out]; unfold oneL; rw [hun]; rfl
      have hnr := nrow_of hrow
      obtain ⟨pa, pc, rfl⟩ := hnr.form
      obtain ⟨L, o, rfl, hcm⟩ := nrow_get hnr (i := 0) (by simp)
      rw [Nat.add_zero] at hcm
      have hcm' : w1.cell? ⟨L, o, none⟩ = some (.int .i64 m) := hcm
      have hB1 := cell_below hB b1
      have hp1 := hp.below b1
      have hcR : w1.cell? ⟨R, ci, none⟩ = some (.int .i64 old) := (hp1.blk.cell ci).trans hc
      have hfR := hp1.blk.frozen ci
      have HA := Lib.hid hacc
      have hst : Stays (fun k => k = R) w1 (w1.setCell ⟨R, ci, none⟩ (.int .i64 m)).drew := (Stays.cell (.refl _ w1) ci (.int .i64 m)).drewN 1
      have hfin : RetRl w R (some (f (q.pl (ss.map txt)) m)) (.returned (.bool true)) (w1.setCell ⟨R, ci, none⟩ (.int .i64 m)).drew := by
        refine ⟨(Stays.of b1).trans hst, rfl, upd q m, bv, ss, ⟨?_, srw_stays hp1.row hst (fun L o m' c h h0 e => Nat.ne_of_gt (hp1.ne L o m' c h h0) e), hp1.ne, hp1.nl⟩, hf m⟩
        have := (hp1.blk.set ci (.int .i64 m)).drewN 1
        rw [hu m] at this
        exact this
      have HFIN := Lib.hid hfin
      subst hrs
      clear hun HRES hrow hnr hl1 hcm hacc hu hf hst hfin hp hp1 hr hsz
      rw [List.length_singleton]
      go_upto_region 4 with fail
      go_region_with (first | ((with_reducible refine (HA.out _).mono ?_); rintro ex wz ⟨rfl, rfl⟩))
      all_goals (go_wp2_with fail; go_ret; exact HFIN.out)
end Go.Proofs.YtddnmocoaahlfaaGreatDoor
namespace Go.Proofs.YtddnmocoaahlfaaGreatDoor
open Go.RowKit Go.Shelf
theorem acc86 (R : Nat) (W : World) : Calls Tryz.prog 86 #[.pointer (some ⟨R, 0, none⟩)] W (fun e w' => e = .returned (.pointer (some ⟨R, 1, none⟩)) ∧ w' = W) := by
  go_enter Tryz.func86, Tryz.ntmps86
  go_wp2_with fail
  go_ret
  exact ⟨rfl, rfl⟩
theorem enters86 (args : Array Value) (w : World) : (callFunc 86 args).run Tryz.prog w = .ok (.enter 86 args) w := enters_of Tryz.func86 (by kernel_rfl) rfl args w
theorem acc91 (R : Nat) (W : World) : Calls Tryz.prog 91 #[.pointer (some ⟨R, 0, none⟩)] W (fun e w' => e = .returned (.pointer (some ⟨R, 12, none⟩)) ∧ w' = W) := by
  go_enter Tryz.func91, Tryz.ntmps91
  go_wp2_with fail
  go_ret
  exact ⟨rfl, rfl⟩
theorem enters91 (args : Array Value) (w : World) : (callFunc 91 args).run Tryz.prog w = .ok (.enter 91 args) w := enters_of Tryz.func91 (by kernel_rfl) rfl args w
theorem acc92 (R : Nat) (W : World) : Calls Tryz.prog 92 #[.pointer (some ⟨R, 0, none⟩)] W (fun e w' => e = .returned (.pointer (some ⟨R, 13, none⟩)) ∧ w' = W) := by
  go_enter Tryz.func92, Tryz.ntmps92
  go_wp2_with fail
  go_ret
  exact ⟨rfl, rfl⟩
theorem enters92 (args : Array Value) (w : World) : (callFunc 92 args).run Tryz.prog w = .ok (.enter 92 args) w := enters_of Tryz.func92 (by kernel_rfl) rfl args w
theorem acc93 (R : Nat) (W : World) : Calls Tryz.prog 93 #[.pointer (some ⟨R, 0, none⟩)] W (fun e w' => e = .returned (.pointer (some ⟨R, 14, none⟩)) ∧ w' = W) := by
  go_enter Tryz.func93, Tryz.ntmps93
  go_wp2_with fail
  go_ret
  exact ⟨rfl, rfl⟩
theorem enters93 (args : Array Value) (w : World) : (callFunc 93 args).run Tryz.prog w = .ok (.enter 93 args) w := enters_of Tryz.func93 (by kernel_rfl) rfl args w
theorem acc94 (R : Nat) (W : World) : Calls Tryz.prog 94 #[.pointer (some ⟨R, 0, none⟩)] W (fun e w' => e = .returned (.pointer (some ⟨R, 15, none⟩)) ∧ w' = W) := by
  go_enter Tryz.func94, Tryz.ntmps94
  go_wp2_with fail
  go_ret
  exact ⟨rfl, rfl⟩
theorem enters94 (args : Array Value) (w : World) : (callFunc 94 args).run Tryz.prog w = .ok (.enter 94 args) w := enters_of Tryz.func94 (by kernel_rfl) rfl args w
theorem acc95 (R : Nat) (W : World) : Calls Tryz.prog 95 #[.pointer (some ⟨R, 0, none⟩)] W (fun e w' => e = .returned (.pointer (some ⟨R, 16, none⟩)) ∧ w' = W) := by
  go_enter Tryz.func95, Tryz.ntmps95
  go_wp2_with fail
  go_ret
  exact ⟨rfl, rfl⟩
theorem enters95 (args : Array Value) (w : World) : (callFunc 95 args).run Tryz.prog w = .ok (.enter 95 args) w := enters_of Tryz.func95 (by kernel_rfl) rfl args w
theorem acc96 (R : Nat) (W : World) : Calls Tryz.prog 96 #[.pointer (some ⟨R, 0, none⟩)] W (fun e w' => e = .returned (.pointer (some ⟨R, 17, none⟩)) ∧ w' = W) := by
  go_enter Tryz.func96, Tryz.ntmps96
  go_wp2_with fail
  go_ret
  exact ⟨rfl, rfl⟩
theorem enters96 (args : Array Value) (w : World) : (callFunc 96 args).run Tryz.prog w = .ok (.enter 96 args) w := enters_of Tryz.func96 (by kernel_rfl) rfl args w
theorem acc97 (R : Nat) (W : World) : Calls Tryz.prog 97 #[.pointer (some ⟨R, 0, none⟩)] W (fun e w' => e = .returned (.pointer (some ⟨R, 18, none⟩)) ∧ w' = W) := by
  go_enter Tryz.func97, Tryz.ntmps97
  go_wp2_with fail
  go_ret
  exact ⟨rfl, rfl⟩
theorem enters97 (args : Array Value) (w : World) : (callFunc 97 args).run Tryz.prog w = .ok (.enter 97 args) w := enters_of Tryz.func97 (by kernel_rfl) rfl args w
theorem truth_any (n : Int) (W : World) : Calls Tryz.prog 126 #[.int .i64 n] W (fun e w' => e = .returned (.tuple #[.bool (decide (n = 1)), .bool (decide (n = 0 ∨ n = 1))]) ∧ w' = W) := by
  by_cases h1 : n = 1
  · subst h1
    go_enter Tryz.func126, Tryz.ntmps126
    go_wp2_with fail
    go_ret2
    exact ⟨rfl, rfl⟩
  · by_cases h0 : n = 0
    · subst h0
      go_enter Tryz.func126, Tryz.ntmps126
      go_wp2_with fail
      go_ret2
      exact ⟨rfl, rfl⟩
    · have d1 : (n == 1) = false := by simp [h1]
      have d0 : (n == 0) = false := by simp [h0]
      have e1 : decide (n = 1) = false := decide_eq_false h1
      have e2 : decide (n = 0 ∨ n = 1) = false := decide_eq_false (fun h => h.elim h0 h1)
      rw [e1, e2]
      clear h1 h0 e1 e2
      go_enter Tryz.func126, Tryz.ntmps126
      go_wp2_with fail
      go_ret2
      exact ⟨rfl, rfl⟩
set_option maxRecDepth 100000 in
set_option maxHeartbeats 4000000 in
theorem alphabet_any {w : World} (he : Env w) {R : Nat} {q : PV} {bv pv : Value} {ss ps : List ByteArray} (hp : PA w R q bv ss) (hr : SRw w pv ps) (hl : ps.length ≤ 65536) (hsz : ∀ x ∈ ps, x.size ≤ 65536) : Calls Tryz.prog 84 #[.pointer (some ⟨R, 0, none⟩), pv] w (RetRl w R (readLine 0 (q.pl (ss.map txt)) (ps.map txt))) := by
  obtain ⟨pa, pc, rfl⟩ := hr.form
  by_cases h1 : ps.length = 1
  rotate_left
  · have hrn : readLine 0 (q.pl (ss.map txt)) (ps.map txt) = none := by
      unfold readLine
      rw [if_pos rfl]
      match ps, h1 with
      | [], _ => rfl
      | [_], h => exact absurd rfl h
      | _ :: _ :: _, _ => rfl
    rw [hrn]
    have d1 : ((ps.length : Int) != 1) = true := by simp; omega
    clear hrn h1
    go_enter Tryz.func84, Tryz.ntmps84
    go_wp2_with fail
    go_ret
    exact ⟨.refl _ _, rfl⟩
  · obtain ⟨x, rfl⟩ : ∃ x, ps = [x] := by
      match ps, h1 with
      | [x], _ => exact ⟨x, rfl⟩
    obtain ⟨L, o, rfl, hcm⟩ := srw_get hr (i := 0) (by simp)
    rw [Nat.add_zero] at hcm
    have hcx : w.cell? ⟨L, o, none⟩ = some (.string x) := hcm
    have hxz : x.size ≤ 65536 := hsz x (by simp)
    have HT := Lib.hid (isTok_any x w (by omega))
    have hrl : readLine 0 (q.pl (ss.map txt)) ([x].map txt) = if isTokL (txt x) then some { q.pl (ss.map txt) with alphabet := txt x } else none := rfl
    rw [hrl, List.length_singleton]
    cases ht : isTokL (txt x) with
    | false =>
      rw [ht] at HT
      clear hrl hcm ht hr hsz
      go_enter Tryz.func84, Tryz.ntmps84
      go_wp2_with (go_at_call 48; (with_reducible refine HT.out.mono ?_); rintro ex wz ⟨rfl, hz⟩; rw [hz]; clear hz)
      go_ret
      exact ⟨.refl _ _, rfl⟩
    | true =>
      rw [ht] at HT
      have c0 : w.cell? ⟨R, 0, none⟩ = some (.string q.al) := (hp.blk.cell 0).trans rfl
      have f0 := hp.blk.frozen 0
      have hst : Stays (fun k => k = R) w (w.setCell ⟨R, 0, none⟩ (.string x)) := Stays.cell (.refl _ w) 0 _
      have hfin : RetRl w R (some { q.pl (ss.map txt) with alphabet := txt x }) (.returned (.bool true)) (w.setCell ⟨R, 0, none⟩ (.string x)) :=
        ⟨hst, rfl, { q with al := x }, bv, ss, ⟨hp.blk.set 0 (.string x), srw_stays hp.row hst (fun L o m' c h h0 e => Nat.ne_of_gt (hp.ne L o m' c h h0) e), hp.ne, hp.nl⟩, rfl⟩
      have HFIN := Lib.hid hfin
      clear hrl hcm ht hr hsz hst hfin hp
      go_enter Tryz.func84, Tryz.ntmps84
      go_wp2_with (go_at_call 48; (with_reducible refine HT.out.mono ?_); rintro ex wz ⟨rfl, hz⟩; rw [hz]; clear hz)
      go_ret
      exact HFIN.out
set_option maxRecDepth 100000 in
set_option maxHeartbeats 8000000 in
theorem costs_any {w : World} (he : Env w) {R : Nat} {q : PV} {bv pv : Value} {ss ps : List ByteArray} (hp : PA w R q bv ss) (hr : SRw w pv ps) (hl : ps.length ≤ 65536) (hsz : ∀ x ∈ ps, x.size ≤ 65536) : Calls Tryz.prog 90 #[.pointer (some ⟨R, 0, none⟩), pv] w (RetRl w R (readLine 5 (q.pl (ss.map txt)) (ps.map txt))) := by
  have HU := Lib.hid (undecAll_any he hr (by omega) hsz)
  obtain ⟨res, hres⟩ : ∃ res, res = readLine 5 (q.pl (ss.map txt)) (ps.map txt) := ⟨_, rfl⟩
  rw [← hres]
  have HRES := Lib.hid hres
  clear hres
  go_enter Tryz.func90, Tryz.ntmps90
  go_wp2_with fail
  refine HU.out.mono ?_
  rintro e w1 ⟨b1, h1⟩
  clear HU
  cases hun : undecAllL (ps.map txt) with
  | none =>
    rw [hun] at h1
    have hrn : res = none := by rw [HRES.out]; unfold readLine ; simp [hun]
    subst h1
    subst hrn
    clear hun HRES
    go_wp2_with fail
    go_ret
    exact ⟨.of b1, rfl⟩
  | some l =>
    rw [hun] at h1
    obtain ⟨v', rfl, hrow⟩ := h1
    by_cases hl1 : l.length = 3
    rotate_left
    · have hrn : res = none := by
        rw [HRES.out]
        unfold readLine
        simp only [hun]
        match l, hl1 with
        | [], _ => rfl
        | [_], _ => rfl
        | [_, _], _ => rfl
        | [_, _, _], h => exact absurd rfl h
        | _ :: _ :: _ :: _ :: _, _ => rfl
      subst hrn
      obtain ⟨a', n', c', rfl, hlen⟩ : ∃ a n c, v' = .slice a n c ∧ n = l.length := by
        obtain ⟨a, c, h⟩ := (nrow_of hrow).form
        exact ⟨a, _, c, h, rfl⟩
      have d1 : ((n' : Int) != 3) = true := by simp; omega
      clear hun HRES hlen hl1
      go_wp2_with fail
      go_ret
      exact ⟨.of b1, rfl⟩
    · have hnr := nrow_of hrow
      obtain ⟨pa, pc, rfl⟩ := hnr.form
      have hp1 := hp.below b1
      obtain ⟨m0, m1, m2, rfl⟩ : ∃ m0 m1 m2, l = [m0, m1, m2] := by
        match l, hl1 with
        | [m0, m1, m2], _ => exact ⟨m0, m1, m2, rfl⟩
      obtain ⟨L, o, rfl, _⟩ := nrow_get hnr (i := 0) (by simp)
      have l0 : w1.cell? ⟨L, o, none⟩ = some (.int .i64 m0) := by
        obtain ⟨L', o', e', h⟩ := nrow_get hnr (i := 0) (by simp)
        cases e'
        exact h
      have l1 : w1.cell? ⟨L, o + 1, none⟩ = some (.int .i64 m1) := by
        obtain ⟨L', o', e', h⟩ := nrow_get hnr (i := 1) (by simp)
        cases e'
        exact h
      have l2 : w1.cell? ⟨L, o + 2, none⟩ = some (.int .i64 m2) := by
        obtain ⟨L', o', e', h⟩ := nrow_get hnr (i := 2) (by simp)
        cases e'
        exact h
      have hln : ([m0, m1, m2] : List Int).length = 3 := rfl
      rw [hln]
      have hrs : res = some { q.pl (ss.map txt) with reprint := m0, star := m1, open_ := m2 } := by rw [HRES.out]; unfold readLine; simp [hun]
      have c9 : w1.cell? ⟨R, 9, none⟩ = some (.int .i64 q.reprint) := (hp1.blk.cell 9).trans rfl
      have f9 := hp1.blk.frozen 9
      have c10 : w1.cell? ⟨R, 10, none⟩ = some (.int .i64 q.star) := (hp1.blk.cell 10).trans rfl
      have f10 := hp1.blk.frozen 10
      have c11 : w1.cell? ⟨R, 11, none⟩ = some (.int .i64 q.opn) := (hp1.blk.cell 11).trans rfl
      have f11 := hp1.blk.frozen 11
      have hst : Stays (fun k => k = R) w1 (World.drew (World.setCell (World.setCell (World.setCell w1 ⟨R, 9, none⟩ (.int .i64 m0)) ⟨R, 10, none⟩ (.int .i64 m1)) ⟨R, 11, none⟩ (.int .i64 m2))) := (Stays.drewN (Stays.cell ((Stays.cell ((Stays.cell (.refl _ w1) 9 (.int .i64 m0))) 10 (.int .i64 m1))) 11 (.int .i64 m2)) 1)
      have hfin : RetRl w R (some { q.pl (ss.map txt) with reprint := m0, star := m1, open_ := m2 }) (.returned (.bool true)) (World.drew (World.setCell (World.setCell (World.setCell w1 ⟨R, 9, none⟩ (.int .i64 m0)) ⟨R, 10, none⟩ (.int .i64 m1)) ⟨R, 11, none⟩ (.int .i64 m2))) :=
        ⟨(Stays.of b1).trans hst, rfl, { q with reprint := m0, star := m1, opn := m2 }, bv, ss, ⟨(Blk.drewN (Blk.set (Blk.set (Blk.set hp1.blk 9 (.int .i64 m0)) 10 (.int .i64 m1)) 11 (.int .i64 m2)) 1), srw_stays hp1.row hst (fun L o m' c h h0 e => Nat.ne_of_gt (hp1.ne L o m' c h h0) e), hp1.ne, hp1.nl⟩, rfl⟩
      have HFIN := Lib.hid hfin
      subst hrs
      clear hun HRES hrow hnr hl1 hst hfin hp hp1 hr hsz hln
      go_upto_region 4 with fail
      go_region
      go_wp2_with fail
      go_ret
      exact HFIN.out
end Go.Proofs.YtddnmocoaahlfaaGreatDoor
namespace Go.Proofs.YtddnmocoaahlfaaGreatDoor
open Go.RowKit Go.Shelf
theorem Blk.upto {w w' : World} {b R : Nat} {cs : Array Value} {T : TypeId} (h : Blk w R cs T) (hb : Below b w w') (hl : R < b) : Blk w' R cs T := by
  unfold Blk at *
  rw [hb.block R hl]; exact h
theorem Stays.upto {M : Nat → Prop} {a w w' : World} (h : Stays M a w) (hb : Below a.heap.size w w') : Stays M a w' :=
  ⟨hb.os.trans h.os, hb.tape.trans h.tape, hb.output.trans h.output, Nat.le_trans h.size hb.size, fun k hk hn => (hb.block k hk).trans (h.block k hk hn)⟩
theorem take_all {p : ByteArray → Bool} {l : List ByteArray} {i : Nat} (h : i < l.length) (hp : p l[i] = true) (ha : (l.take i).all p = true) : (l.take (i + 1)).all p = true := by
  rw [List.take_succ_eq_append_getElem h, List.all_append, ha, List.all_cons, hp]; rfl
set_option maxRecDepth 100000 in
set_option maxHeartbeats 8000000 in
theorem banned_any {w : World} {R : Nat} {q : PV} {pv : Value} {ps : List ByteArray} (hp : PA w R q (.slice none 0 0) []) (hr : SRw w pv ps) (hl : ps.length ≤ 65536) (hsz : ∀ x ∈ ps, x.size ≤ 65536) (hne : ∀ L o m c, pv = .slice (some ⟨L, o, none⟩) m c → ps ≠ [] → L ≠ R) :
    Calls Tryz.prog 87 #[.pointer (some ⟨R, 0, none⟩), pv] w (RetRl w R (readLine 2 (q.pl []) (ps.map txt))) := by
  obtain ⟨i0, hi0, hz0, hz1, hz2⟩ := info_parts info9
  have hlt0 := hp.blk.lt
  obtain ⟨res, hres⟩ : ∃ res, res = readLine 2 (q.pl []) (ps.map txt) := ⟨_, rfl⟩
  rw [← hres]
  have HRES := Lib.hid hres
  have HB := Lib.hid hp.blk
  have HSZ := Lib.hid hsz
  have HR := Lib.hid hr
  have HNE := Lib.hid hne
  obtain ⟨a, c, rfl⟩ := hr.form
  have hcap : ps = [] ∨ ps.length ≤ c := by
    rcases hr with ⟨rfl, _⟩ | ⟨_, L, o, c', h1, h2, h3⟩
    · exact .inl rfl
    · injection h1 with _ _ h1; subst h1; exact .inr h2
  clear hp hr hsz hne hres
  go_enter Tryz.func87, Tryz.ntmps87
  go_wp2_with fail
  go_loopw [9] (fun t wr => ∃ (k : Nat) (sv : Value), t = .int .i64 k ∧ k ≤ ps.length ∧ (k = 0 → sv = .slice none 0 0) ∧ wr.ownsRow w.heap.size 9 1 sv (ps.take k).length ((ps.take k).map Value.string) ∧ Blk wr R (q.cells sv) 35 ∧ (ps.take k).all (fun x => isTokL (txt x)) = true ∧ Stays (fun j => j = R) w wr) (fun t wr => ps.length - (intOf t).toNat)
  case atStart => exact ⟨0, .slice none 0 0, rfl, Nat.zero_le _, (fun _ => rfl), World.ownsRow_nil _ _ _ _, HB.out, rfl, .refl _ _⟩
  case round =>
    obtain ⟨k, sv, rfl, hk, hk0, hown, hbk, hall, hst⟩ := hrel
    have hszr := hst.size
    have HK0 := Lib.hid hk0
    have HALL := Lib.hid hall
    clear hall hk0
    by_cases hlt : k < ps.length
    · obtain ⟨L, o, rfl, ck0⟩ := srw_get HR.out hlt
      have hLR : L ≠ R := HNE.out L o _ _ rfl (by intro e; rw [e] at hlt; simp at hlt)
      have ck : wr.cell? ⟨L, o + k, none⟩ = some (.string ps[k]) := (World.cell?_of_block (a := ⟨L, o + k, none⟩) (hst.block L (World.block_lt_of_cell? w _ ck0) hLR)).trans ck0
      have hcc : ps.length ≤ c := hcap.resolve_left (fun e => by rw [e] at hlt; simp at hlt)
      have hxs := HSZ.out ps[k] (List.getElem_mem hlt)
      have hx : ∃ x, ps[k] = x := ⟨_, rfl⟩
      obtain ⟨x, hx⟩ := hx
      have HX := Lib.hid hx
      rw [hx] at ck hxs
      clear hx ck0
      have HT := Lib.hid (isTok_any x wr (by omega))
      have c2 : wr.cell? ⟨R, 2, none⟩ = some sv := (hbk.cell 2).trans rfl
      have HBK := Lib.hid hbk
      cases ht : isTokL (txt x) with
      | false =>
        rw [ht] at HT
        have hrn : res = none := by
          rw [HRES.out]
          unfold readLine
          simp only [show ¬ (2 = 0) by decide, show ¬ (2 = 1) by decide, if_false, if_true]
          rw [if_neg]
          intro h
          rw [List.all_eq_true] at h
          have := h (txt x) (List.mem_map.2 ⟨x, by rw [← HX.out]; exact List.getElem_mem hlt, rfl⟩)
          rw [ht] at this
          cases this
        subst hrn
        have HST := Lib.hid hst
        clear hst hbk ht
        go_wp2_with (go_at_call 48; (with_reducible refine HT.out.mono ?_); rintro ex wz ⟨rfl, hz⟩; rw [hz]; clear hz)
        go_ret
        exact ⟨HST.out, rfl⟩
      | true =>
        rw [ht] at HT
        have hta : (ps.take (k + 1)).all (fun x => isTokL (txt x)) = true := take_all hlt (by rw [HX.out]; exact ht) HALL.out
        have htk : ps.take (k + 1) = ps.take k ++ [x] := by rw [List.take_succ_eq_append_getElem hlt, HX.out]
        have hln : (ps.take k).length ≤ 65536 := by rw [List.length_take]; omega
        obtain ⟨n, ts, hn, hts⟩ : ∃ (n : Nat) (ts : List ByteArray), n = (ps.take k).length ∧ ts = ps.take k := ⟨_, _, rfl, rfl⟩
        have hnk : n = k := by rw [hn, List.length_take]; omega
        rw [← hn] at hln
        rw [← hn, ← hts] at hown
        have HN := Lib.hid hn
        have HNK := Lib.hid hnk
        have HTS := Lib.hid hts
        have HTA := Lib.hid hta
        have HTK := Lib.hid htk
        have HST := Lib.hid hst
        clear hst hbk ht hta htk hn hts hnk
        go_wp2_with (first | (go_at_call 48; (with_reducible refine HT.out.mono ?_); rintro ex wz ⟨rfl, hz⟩; rw [hz]; clear hz) | (at_builtin; refine wpList_append_lies _ rfl _ _ 27 rfl w.heap.size 9 i0 (.string ⟨#[]⟩) 1 16 Tryz.underlying27 hi0 hz0 hz1 hz2 rfl (by decide) _ _ _ rfl (hown.alloc _) ⟨wr.heap.size, 0, none⟩ 1 1 [.string x] rfl rfl (one_new _ _ _) (by simp [Value.oneCell']) (by decide) (by unfold maxLen; omega) (by omega) (by simp; omega) _ rfl ?_; intro g cap2 w2 hown2 hgr hat hg2; have hbl2 : Below w.heap.size wr w2 := ((Below.refl _ wr).alloc hszr _).grown hgr (by simp; omega) (fun j hj => (hown.lt j hj).1); have hb2 := HBK.out.upto hbl2 hlt0; have c22 : w2.cell? ⟨R, 2, none⟩ = some sv := (hb2.cell 2).trans rfl; have f22 := hb2.frozen 2; have HB2 := Lib.hid hb2; clear hb2))
        go_roundw
        case rel =>
          refine ⟨k + 1, _, by go_num, by omega, (fun h => by omega), ?_, HB2.out.set 2 _, HTA.out, (HST.out.upto hbl2).cell 2 _⟩
          rw [HTK.out, List.map_append, List.length_append, ← HTS.out, HTS.out, ← HN.out, ← HTS.out]
          have hne : ∀ j, (Value.slice (some ⟨g, 0, none⟩) (n + 1) cap2).ownBlock = some j → j ≠ R := fun j hj => by
            have := (hown2.lt j hj).1
            omega
          exact row_keep hown2 (fun j hj => Below.heap_setCell (w := w2) (k := j) _ _ (hne j hj))
        case measure => simp [intOf]; omega
    · have hkk : k = ps.length := by omega
      subst hkk
      rw [List.take_length] at hown HALL
      have hrn : res = some (q.pl (ps.map txt)) := by
        rw [HRES.out]
        unfold readLine
        simp only [show ¬ (2 = 0) by decide, show ¬ (2 = 1) by decide, if_false, if_true]
        rw [if_pos]
        · rfl
        · rw [List.all_map]; exact HALL.out
      have hPA : PA wr R q sv ps := by
        refine ⟨hbk, (srow_of hown).rw, ?_, fun h => HK0.out (by rw [h]; rfl)⟩
        rintro L o m c' rfl h0
        have := (hown.lt L (by simp [Value.ownBlock])).1
        omega
      have HFIN := Lib.hid (show RetRl w R (some (q.pl (ps.map txt))) (.returned (.bool true)) wr from ⟨hst, rfl, q, sv, ps, hPA, rfl⟩)
      subst hrn
      clear hst hbk hPA
      go_wp2_with fail
      go_ret
      exact HFIN.out
end Go.Proofs.YtddnmocoaahlfaaGreatDoor
