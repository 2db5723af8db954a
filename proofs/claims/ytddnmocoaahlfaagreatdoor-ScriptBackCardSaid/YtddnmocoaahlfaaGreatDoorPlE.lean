/-
  The readers of a plant's lines: alphabet, check, layout, costs; and the places of single numbers. Conditions: the package-level variables hold what the program lays; short words.
-/
import Derived.Test.YtddnmocoaahlfaaGreatDoorY4
set_option linter.unusedVariables false
set_option linter.unusedSimpArgs false

namespace Go.Proofs.YtddnmocoaahlfaaGreatDoor
open Go.RowKit Go.Shelf
theorem acc86 (R : Nat) (W : World) : Calls Tryz.prog 86 #[.pointer (some ⟨R, 0, none⟩)] W (fun e w' => e = .returned (.pointer (some ⟨R, 1, none⟩)) ∧ w' = W) := by
  go_enter Tryz.func86, Tryz.ntmps86
  go_wp2_with fail
  go_ret
  exact ⟨rfl, rfl⟩
theorem enters86 (args : Array Value) (w : World) : (callFunc 86 args).run Tryz.prog w = .ok (.enter 86 args) w := enters_of Tryz.func86 (by kernel_rfl) rfl args w
theorem acc91 (R : Nat) (W : World) : Calls Tryz.prog 91 #[.pointer (some ⟨R, 0, none⟩)] W (fun e w' => e = .returned (.pointer (some ⟨R, 12, none⟩)) ∧ w' = W) := by
  go_enter Tryz.func91, Tryz.ntmps91
  go_wp2_with fail
  go_ret
  exact ⟨rfl, rfl⟩
theorem enters91 (args : Array Value) (w : World) : (callFunc 91 args).run Tryz.prog w = .ok (.enter 91 args) w := enters_of Tryz.func91 (by kernel_rfl) rfl args w
theorem acc92 (R : Nat) (W : World) : Calls Tryz.prog 92 #[.pointer (some ⟨R, 0, none⟩)] W (fun e w' => e = .returned (.pointer (some ⟨R, 13, none⟩)) ∧ w' = W) := by
  go_enter Tryz.func92, Tryz.ntmps92
  go_wp2_with fail
  go_ret
  exact ⟨rfl, rfl⟩
theorem enters92 (args : Array Value) (w : World) : (callFunc 92 args).run Tryz.prog w = .ok (.enter 92 args) w := enters_of Tryz.func92 (by kernel_rfl) rfl args w
theorem acc93 (R : Nat) (W : World) : Calls Tryz.prog 93 #[.pointer (some ⟨R, 0, none⟩)] W (fun e w' => e = .returned (.pointer (some ⟨R, 14, none⟩)) ∧ w' = W) := by
  go_enter Tryz.func93, Tryz.ntmps93
  go_wp2_with fail
  go_ret
  exact ⟨rfl, rfl⟩
theorem enters93 (args : Array Value) (w : World) : (callFunc 93 args).run Tryz.prog w = .ok (.enter 93 args) w := enters_of Tryz.func93 (by kernel_rfl) rfl args w
theorem acc94 (R : Nat) (W : World) : Calls Tryz.prog 94 #[.pointer (some ⟨R, 0, none⟩)] W (fun e w' => e = .returned (.pointer (some ⟨R, 15, none⟩)) ∧ w' = W) := by
  go_enter Tryz.func94, Tryz.ntmps94
  go_wp2_with fail
  go_ret
  exact ⟨rfl, rfl⟩
theorem enters94 (args : Array Value) (w : World) : (callFunc 94 args).run Tryz.prog w = .ok (.enter 94 args) w := enters_of Tryz.func94 (by kernel_rfl) rfl args w
theorem acc95 (R : Nat) (W : World) : Calls Tryz.prog 95 #[.pointer (some ⟨R, 0, none⟩)] W (fun e w' => e = .returned (.pointer (some ⟨R, 16, none⟩)) ∧ w' = W) := by
  go_enter Tryz.func95, Tryz.ntmps95
  go_wp2_with fail
  go_ret
  exact ⟨rfl, rfl⟩
theorem enters95 (args : Array Value) (w : World) : (callFunc 95 args).run Tryz.prog w = .ok (.enter 95 args) w := enters_of Tryz.func95 (by kernel_rfl) rfl args w
theorem acc96 (R : Nat) (W : World) : Calls Tryz.prog 96 #[.pointer (some ⟨R, 0, none⟩)] W (fun e w' => e = .returned (.pointer (some ⟨R, 17, none⟩)) ∧ w' = W) := by
  go_enter Tryz.func96, Tryz.ntmps96
  go_wp2_with fail
  go_ret
  exact ⟨rfl, rfl⟩
theorem enters96 (args : Array Value) (w : World) : (callFunc 96 args).run Tryz.prog w = .ok (.enter 96 args) w := enters_of Tryz.func96 (by kernel_rfl) rfl args w
theorem acc97 (R : Nat) (W : World) : Calls Tryz.prog 97 #[.pointer (some ⟨R, 0, none⟩)] W (fun e w' => e = .returned (.pointer (some ⟨R, 18, none⟩)) ∧ w' = W) := by
  go_enter Tryz.func97, Tryz.ntmps97
  go_wp2_with fail
  go_ret
  exact ⟨rfl, rfl⟩
theorem enters97 (args : Array Value) (w : World) : (callFunc 97 args).run Tryz.prog w = .ok (.enter 97 args) w := enters_of Tryz.func97 (by kernel_rfl) rfl args w
theorem truth_any (n : Int) (W : World) : Calls Tryz.prog 126 #[.int .i64 n] W (fun e w' => e = .returned (.tuple #[.bool (decide (n = 1)), .bool (decide (n = 0 ∨ n = 1))]) ∧ w' = W) := by
  by_cases h1 : n = 1
  · subst h1
    go_enter Tryz.func126, Tryz.ntmps126
    go_wp2_with fail
    go_ret2
    exact ⟨rfl, rfl⟩
  · by_cases h0 : n = 0
    · subst h0
      go_enter Tryz.func126, Tryz.ntmps126
      go_wp2_with fail
      go_ret2
      exact ⟨rfl, rfl⟩
    · have d1 : (n == 1) = false := by simp [h1]
      have d0 : (n == 0) = false := by simp [h0]
      have e1 : decide (n = 1) = false := decide_eq_false h1
      have e2 : decide (n = 0 ∨ n = 1) = false := decide_eq_false (fun h => h.elim h0 h1)
      rw [e1, e2]
      clear h1 h0 e1 e2
      go_enter Tryz.func126, Tryz.ntmps126
      go_wp2_with fail
      go_ret2
      exact ⟨rfl, rfl⟩
set_option maxRecDepth 100000 in
set_option maxHeartbeats 4000000 in
theorem alphabet_any {w : World} (he : Env w) {R : Nat} {q : PV} {bv pv : Value} {ss ps : List ByteArray} (hp : PA w R q bv ss) (hr : SRw w pv ps) (hl : ps.length ≤ 65536) (hsz : ∀ x ∈ ps, x.size ≤ 65536) : Calls Tryz.prog 84 #[.pointer (some ⟨R, 0, none⟩), pv] w (RetRl w R (readLine 0 (q.pl (ss.map txt)) (ps.map txt))) := by
  obtain ⟨pa, pc, rfl⟩ := hr.form
  by_cases h1 : ps.length = 1
  rotate_left
  · have hrn : readLine 0 (q.pl (ss.map txt)) (ps.map txt) = none := by
      unfold readLine
      rw [if_pos rfl]
      match ps, h1 with
      | [], _ => rfl
      | [_], h => exact absurd rfl h
      | _ :: _ :: _, _ => rfl
    rw [hrn]
    have d1 : ((ps.length : Int) != 1) = true := by simp; omega
    clear hrn h1
    go_enter Tryz.func84, Tryz.ntmps84
    go_wp2_with fail
    go_ret
    exact ⟨.refl _ _, rfl⟩
  · obtain ⟨x, rfl⟩ : ∃ x, ps = [x] := by
      match ps, h1 with
      | [x], _ => exact ⟨x, rfl⟩
    obtain ⟨L, o, rfl, hcm⟩ := srw_get hr (i := 0) (by simp)
    rw [Nat.add_zero] at hcm
    have hcx : w.cell? ⟨L, o, none⟩ = some (.string x) := hcm
    have hxz : x.size ≤ 65536 := hsz x (by simp)
    have HT := Lib.hid (isTok_any x w (by omega))
    have hrl : readLine 0 (q.pl (ss.map txt)) ([x].map txt) = if isTokL (txt x) then some { q.pl (ss.map txt) with alphabet := txt x } else none := rfl
    rw [hrl, List.length_singleton]
    cases ht : isTokL (txt x) with
    | false =>
      rw [ht] at HT
      clear hrl hcm ht hr hsz
      go_enter Tryz.func84, Tryz.ntmps84
      go_wp2_with (go_at_call 48; (with_reducible refine HT.out.mono ?_); rintro ex wz ⟨rfl, hz⟩; rw [hz]; clear hz)
      go_ret
      exact ⟨.refl _ _, rfl⟩
    | true =>
      rw [ht] at HT
      have c0 : w.cell? ⟨R, 0, none⟩ = some (.string q.al) := (hp.blk.cell 0).trans rfl
      have f0 := hp.blk.frozen 0
      have hst : Stays (fun k => k = R) w (w.setCell ⟨R, 0, none⟩ (.string x)) := Stays.cell (.refl _ w) 0 _
      have hfin : RetRl w R (some { q.pl (ss.map txt) with alphabet := txt x }) (.returned (.bool true)) (w.setCell ⟨R, 0, none⟩ (.string x)) :=
        ⟨hst, rfl, { q with al := x }, bv, ss, ⟨hp.blk.set 0 (.string x), srw_stays hp.row hst (fun L o m' c h h0 e => Nat.ne_of_gt (hp.ne L o m' c h h0) e), hp.ne, hp.nl⟩, rfl⟩
      have HFIN := Lib.hid hfin
      clear hrl hcm ht hr hsz hst hfin hp
      go_enter Tryz.func84, Tryz.ntmps84
      go_wp2_with (go_at_call 48; (with_reducible refine HT.out.mono ?_); rintro ex wz ⟨rfl, hz⟩; rw [hz]; clear hz)
      go_ret
      exact HFIN.out
set_option maxRecDepth 100000 in
set_option maxHeartbeats 8000000 in
theorem costs_any {w : World} (he : Env w) {R : Nat} {q : PV} {bv pv : Value} {ss ps : List ByteArray} (hp : PA w R q bv ss) (hr : SRw w pv ps) (hl : ps.length ≤ 65536) (hsz : ∀ x ∈ ps, x.size ≤ 65536) : Calls Tryz.prog 90 #[.pointer (some ⟨R, 0, none⟩), pv] w (RetRl w R (readLine 5 (q.pl (ss.map txt)) (ps.map txt))) := by
  have HU := Lib.hid (undecAll_any he hr (by omega) hsz)
  obtain ⟨res, hres⟩ : ∃ res, res = readLine 5 (q.pl (ss.map txt)) (ps.map txt) := ⟨_, rfl⟩
  rw [← hres]
  have HRES := Lib.hid hres
  clear hres
  go_enter Tryz.func90, Tryz.ntmps90
  go_wp2_with fail
  refine HU.out.mono ?_
  rintro e w1 ⟨b1, h1⟩
  clear HU
  cases hun : undecAllL (ps.map txt) with
  | none =>
    rw [hun] at h1
    have hrn : res = none := by rw [HRES.out]; unfold readLine ; simp [hun]
    subst h1
    subst hrn
    clear hun HRES
    go_wp2_with fail
    go_ret
    exact ⟨.of b1, rfl⟩
  | some l =>
    rw [hun] at h1
    obtain ⟨v', rfl, hrow⟩ := h1
    by_cases hl1 : l.length = 3
    rotate_left
    · have hrn : res = none := by
        rw [HRES.out]
        unfold readLine
        simp only [hun]
        match l, hl1 with
        | [], _ => rfl
        | [_], _ => rfl
        | [_, _], _ => rfl
        | [_, _, _], h => exact absurd rfl h
        | _ :: _ :: _ :: _ :: _, _ => rfl
      subst hrn
      obtain ⟨a', n', c', rfl, hlen⟩ : ∃ a n c, v' = .slice a n c ∧ n = l.length := by
        obtain ⟨a, c, h⟩ := (nrow_of hrow).form
        exact ⟨a, _, c, h, rfl⟩
      have d1 : ((n' : Int) != 3) = true := by simp; omega
      clear hun HRES hlen hl1
      go_wp2_with fail
      go_ret
      exact ⟨.of b1, rfl⟩
    · have hnr := nrow_of hrow
      obtain ⟨pa, pc, rfl⟩ := hnr.form
      have hp1 := hp.below b1
      obtain ⟨m0, m1, m2, rfl⟩ : ∃ m0 m1 m2, l = [m0, m1, m2] := by
        match l, hl1 with
        | [m0, m1, m2], _ => exact ⟨m0, m1, m2, rfl⟩
      obtain ⟨L, o, rfl, _⟩ := nrow_get hnr (i := 0) (by simp)
      have l0 : w1.cell? ⟨L, o, none⟩ = some (.int .i64 m0) := by
        obtain ⟨L', o', e', h⟩ := nrow_get hnr (i := 0) (by simp)
        cases e'
        exact h
      have l1 : w1.cell? ⟨L, o + 1, none⟩ = some (.int .i64 m1) := by
        obtain ⟨L', o', e', h⟩ := nrow_get hnr (i := 1) (by simp)
        cases e'
        exact h
      have l2 : w1.cell? ⟨L, o + 2, none⟩ = some (.int .i64 m2) := by
        obtain ⟨L', o', e', h⟩ := nrow_get hnr (i := 2) (by simp)
        cases e'
        exact h
      have hln : ([m0, m1, m2] : List Int).length = 3 := rfl
      rw [hln]
      have hrs : res = some { q.pl (ss.map txt) with reprint := m0, star := m1, open_ := m2 } := by rw [HRES.out]; unfold readLine; simp [hun]
      have c9 : w1.cell? ⟨R, 9, none⟩ = some (.int .i64 q.reprint) := (hp1.blk.cell 9).trans rfl
      have f9 := hp1.blk.frozen 9
      have c10 : w1.cell? ⟨R, 10, none⟩ = some (.int .i64 q.star) := (hp1.blk.cell 10).trans rfl
      have f10 := hp1.blk.frozen 10
      have c11 : w1.cell? ⟨R, 11, none⟩ = some (.int .i64 q.opn) := (hp1.blk.cell 11).trans rfl
      have f11 := hp1.blk.frozen 11
      have hst : Stays (fun k => k = R) w1 (World.drew (World.setCell (World.setCell (World.setCell w1 ⟨R, 9, none⟩ (.int .i64 m0)) ⟨R, 10, none⟩ (.int .i64 m1)) ⟨R, 11, none⟩ (.int .i64 m2))) := (Stays.drewN (Stays.cell ((Stays.cell ((Stays.cell (.refl _ w1) 9 (.int .i64 m0))) 10 (.int .i64 m1))) 11 (.int .i64 m2)) 1)
      have hfin : RetRl w R (some { q.pl (ss.map txt) with reprint := m0, star := m1, open_ := m2 }) (.returned (.bool true)) (World.drew (World.setCell (World.setCell (World.setCell w1 ⟨R, 9, none⟩ (.int .i64 m0)) ⟨R, 10, none⟩ (.int .i64 m1)) ⟨R, 11, none⟩ (.int .i64 m2))) :=
        ⟨(Stays.of b1).trans hst, rfl, { q with reprint := m0, star := m1, opn := m2 }, bv, ss, ⟨(Blk.drewN (Blk.set (Blk.set (Blk.set hp1.blk 9 (.int .i64 m0)) 10 (.int .i64 m1)) 11 (.int .i64 m2)) 1), srw_stays hp1.row hst (fun L o m' c h h0 e => Nat.ne_of_gt (hp1.ne L o m' c h h0) e), hp1.ne, hp1.nl⟩, rfl⟩
      have HFIN := Lib.hid hfin
      subst hrs
      clear hun HRES hrow hnr hl1 hst hfin hp hp1 hr hsz hln
      go_upto_region 4 with fail
      go_region
      go_wp2_with fail
      go_ret
      exact HFIN.out
end Go.Proofs.YtddnmocoaahlfaaGreatDoor
