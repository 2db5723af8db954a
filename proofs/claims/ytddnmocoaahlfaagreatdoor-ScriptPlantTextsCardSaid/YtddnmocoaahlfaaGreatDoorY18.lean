/-
  The readers of a plant's lines: check and layout. Conditions: the package-level variables hold what the program lays; short words.
  The lines of a plant: words and readers. Conditions: those of the readers.
-/
import Derived.Test.YtddnmocoaahlfaaGreatDoorY20
set_option linter.unusedVariables false
set_option linter.unusedSimpArgs false

namespace Go.Proofs.YtddnmocoaahlfaaGreatDoor
open Go.RowKit Go.Shelf
set_option maxRecDepth 100000 in
set_option maxHeartbeats 8000000 in
theorem check_any {w : World} (he : Env w) {R : Nat} {q : PV} {bv pv : Value} {ss ps : List ByteArray} (hp : PA w R q bv ss) (hr : SRw w pv ps) (hl : ps.length ≤ 65536) (hsz : ∀ x ∈ ps, x.size ≤ 65536) : Calls Tryz.prog 88 #[.pointer (some ⟨R, 0, none⟩), pv] w (RetRl w R (readLine 3 (q.pl (ss.map txt)) (ps.map txt))) := by
  have HU := Lib.hid (undecAll_any he hr (by omega) hsz)
  obtain ⟨res, hres⟩ : ∃ res, res = readLine 3 (q.pl (ss.map txt)) (ps.map txt) := ⟨_, rfl⟩
  rw [← hres]
  have HRES := Lib.hid hres
  clear hres
  go_enter Tryz.func88, Tryz.ntmps88
  go_wp2_with fail
  refine HU.out.mono ?_
  rintro e w1 ⟨b1, h1⟩
  clear HU
  cases hun : undecAllL (ps.map txt) with
  | none =>
    rw [hun] at h1
    have hrn : res = none := by rw [HRES.out]; unfold readLine oneL ; simp [hun]
    subst h1
    subst hrn
    clear hun HRES
    go_wp2_with fail
    go_ret
    exact ⟨.of b1, rfl⟩
  | some l =>
    rw [hun] at h1
    obtain ⟨v', rfl, hrow⟩ := h1
    by_cases hl1 : l.length = 1
    rotate_left
    · have hrn : res = none := by
        rw [HRES.out]
        unfold readLine
        simp [one_none hun hl1]
      subst hrn
      obtain ⟨a', n', c', rfl, hlen⟩ : ∃ a n c, v' = .slice a n c ∧ n = l.length := by
        obtain ⟨a, c, h⟩ := (nrow_of hrow).form
        exact ⟨a, _, c, h, rfl⟩
      have d1 : ((n' : Int) != 1) = true := by simp; omega
      clear hun HRES hlen hl1
      go_wp2_with fail
      go_ret
      exact ⟨.of b1, rfl⟩
    · have hnr := nrow_of hrow
      obtain ⟨pa, pc, rfl⟩ := hnr.form
      have hp1 := hp.below b1
      obtain ⟨m0, rfl⟩ : ∃ m0, l = [m0] := by
        match l, hl1 with
        | [m0], _ => exact ⟨m0, rfl⟩
      obtain ⟨L, o, rfl, _⟩ := nrow_get hnr (i := 0) (by simp)
      have l0 : w1.cell? ⟨L, o, none⟩ = some (.int .i64 m0) := by
        obtain ⟨L', o', e', h⟩ := nrow_get hnr (i := 0) (by simp)
        cases e'
        exact h
      have hln : ([m0] : List Int).length = 1 := rfl
      rw [hln]
      have hrs : res = if m0 = 0 ∨ m0 = 1 then some { q.pl (ss.map txt) with check := decide (m0 = 1) } else none := by rw [HRES.out]; unfold readLine oneL; simp [hun]
      have HT := Lib.hid (truth_any m0)
      obtain ⟨t1, ht1⟩ : ∃ t, t = decide (m0 = 1) := ⟨_, rfl⟩
      obtain ⟨t2, ht2⟩ : ∃ t, t = decide (m0 = 0 ∨ m0 = 1) := ⟨_, rfl⟩
      have hrs2 : res = if t2 then some { q.pl (ss.map txt) with check := t1 } else none := by rw [hrs, ht1, ht2]; simp only [decide_eq_true_eq]
      rw [← ht1, ← ht2] at HT
      clear hrs ht1 ht2
      have c3 : w1.cell? ⟨R, 3, none⟩ = some (.bool q.ck) := (hp1.blk.cell 3).trans rfl
      have f3 := hp1.blk.frozen 3
      have hst : Stays (fun k => k = R) w1 (World.setCell w1 ⟨R, 3, none⟩ (.bool t1)) := (Stays.cell (.refl _ w1) 3 (.bool t1))
      have hfin : RetRl w R res (.returned (.bool t2)) (World.setCell w1 ⟨R, 3, none⟩ (.bool t1)) := by
        refine ⟨(Stays.of b1).trans hst, ?_⟩
        rw [hrs2]
        cases t2 with
        | false => rfl
        | true => exact ⟨rfl, { q with ck := t1 }, bv, ss, ⟨(Blk.set hp1.blk 3 (.bool t1)), srw_stays hp1.row hst (fun L o m' c h h0 e => Nat.ne_of_gt (hp1.ne L o m' c h h0) e), hp1.ne, hp1.nl⟩, rfl⟩
      have HFIN := Lib.hid hfin
      clear hun HRES hrow hnr hl1 hst hfin hp hp1 hr hsz hln hrs2
      go_wp2_with (go_at_call 126; (with_reducible refine (HT.out _).mono ?_); rintro ex wz ⟨rfl, hz⟩; rw [hz]; clear hz)
      go_ret
      exact HFIN.out
set_option maxRecDepth 100000 in
set_option maxHeartbeats 8000000 in
theorem layout_any {w : World} (he : Env w) {R : Nat} {q : PV} {bv pv : Value} {ss ps : List ByteArray} (hp : PA w R q bv ss) (hr : SRw w pv ps) (hl : ps.length ≤ 65536) (hsz : ∀ x ∈ ps, x.size ≤ 65536) : Calls Tryz.prog 89 #[.pointer (some ⟨R, 0, none⟩), pv] w (RetRl w R (readLine 4 (q.pl (ss.map txt)) (ps.map txt))) := by
  have HU := Lib.hid (undecAll_any he hr (by omega) hsz)
  obtain ⟨res, hres⟩ : ∃ res, res = readLine 4 (q.pl (ss.map txt)) (ps.map txt) := ⟨_, rfl⟩
  rw [← hres]
  have HRES := Lib.hid hres
  clear hres
  go_enter Tryz.func89, Tryz.ntmps89
  go_wp2_with fail
  refine HU.out.mono ?_
  rintro e w1 ⟨b1, h1⟩
  clear HU
  cases hun : undecAllL (ps.map txt) with
  | none =>
    rw [hun] at h1
    have hrn : res = none := by rw [HRES.out]; unfold readLine ; simp [hun]
    subst h1
    subst hrn
    clear hun HRES
    go_wp2_with fail
    go_ret
    exact ⟨.of b1, rfl⟩
  | some l =>
    rw [hun] at h1
    obtain ⟨v', rfl, hrow⟩ := h1
    by_cases hl1 : l.length = 5
    rotate_left
    · have hrn : res = none := by
        rw [HRES.out]
        unfold readLine
        simp only [hun]
        match l, hl1 with
        | [], _ => rfl
        | [_], _ => rfl
        | [_, _], _ => rfl
        | [_, _, _], _ => rfl
        | [_, _, _, _], _ => rfl
        | [_, _, _, _, _], h => exact absurd rfl h
        | _ :: _ :: _ :: _ :: _ :: _ :: _, _ => rfl
      subst hrn
      obtain ⟨a', n', c', rfl, hlen⟩ : ∃ a n c, v' = .slice a n c ∧ n = l.length := by
        obtain ⟨a, c, h⟩ := (nrow_of hrow).form
        exact ⟨a, _, c, h, rfl⟩
      have d1 : ((n' : Int) != 5) = true := by simp; omega
      clear hun HRES hlen hl1
      go_wp2_with fail
      go_ret
      exact ⟨.of b1, rfl⟩
    · have hnr := nrow_of hrow
      obtain ⟨pa, pc, rfl⟩ := hnr.form
      have hp1 := hp.below b1
      obtain ⟨m0, m1, m2, m3, m4, rfl⟩ : ∃ m0 m1 m2 m3 m4, l = [m0, m1, m2, m3, m4] := by
        match l, hl1 with
        | [m0, m1, m2, m3, m4], _ => exact ⟨m0, m1, m2, m3, m4, rfl⟩
      obtain ⟨L, o, rfl, _⟩ := nrow_get hnr (i := 0) (by simp)
      have hLR : L ≠ R := by
        have := hp.blk.lt
        rcases hrow.2 with ⟨h, _⟩ | ⟨g, cap, cur, h, hb, _⟩
        · cases h
        · cases h
          omega
      have l0 : w1.cell? ⟨L, o, none⟩ = some (.int .i64 m0) := by
        obtain ⟨L', o', e', h⟩ := nrow_get hnr (i := 0) (by simp)
        cases e'
        exact h
      have l1 : w1.cell? ⟨L, o + 1, none⟩ = some (.int .i64 m1) := by
        obtain ⟨L', o', e', h⟩ := nrow_get hnr (i := 1) (by simp)
        cases e'
        exact h
      have l2 : w1.cell? ⟨L, o + 2, none⟩ = some (.int .i64 m2) := by
        obtain ⟨L', o', e', h⟩ := nrow_get hnr (i := 2) (by simp)
        cases e'
        exact h
      have l3 : w1.cell? ⟨L, o + 3, none⟩ = some (.int .i64 m3) := by
        obtain ⟨L', o', e', h⟩ := nrow_get hnr (i := 3) (by simp)
        cases e'
        exact h
      have l4 : w1.cell? ⟨L, o + 4, none⟩ = some (.int .i64 m4) := by
        obtain ⟨L', o', e', h⟩ := nrow_get hnr (i := 4) (by simp)
        cases e'
        exact h
      have hln : ([m0, m1, m2, m3, m4] : List Int).length = 5 := rfl
      rw [hln]
      have hrs : res = if m4 = 0 ∨ m4 = 1 then some { q.pl (ss.map txt) with rows := m0, cols := m1, ream := m2, bundle := m3, down := decide (m4 = 1) } else none := by rw [HRES.out]; unfold readLine; simp [hun]
      have HT := Lib.hid (truth_any m4)
      obtain ⟨t1, ht1⟩ : ∃ t, t = decide (m4 = 1) := ⟨_, rfl⟩
      obtain ⟨t2, ht2⟩ : ∃ t, t = decide (m4 = 0 ∨ m4 = 1) := ⟨_, rfl⟩
      have hrs2 : res = if t2 then some { q.pl (ss.map txt) with rows := m0, cols := m1, ream := m2, bundle := m3, down := t1 } else none := by rw [hrs, ht1, ht2]; simp only [decide_eq_true_eq]
      rw [← ht1, ← ht2] at HT
      clear hrs ht1 ht2
      have c4 : w1.cell? ⟨R, 4, none⟩ = some (.int .i64 q.rows) := (hp1.blk.cell 4).trans rfl
      have f4 := hp1.blk.frozen 4
      have c5 : w1.cell? ⟨R, 5, none⟩ = some (.int .i64 q.cols) := (hp1.blk.cell 5).trans rfl
      have f5 := hp1.blk.frozen 5
      have c6 : w1.cell? ⟨R, 6, none⟩ = some (.int .i64 q.ream) := (hp1.blk.cell 6).trans rfl
      have f6 := hp1.blk.frozen 6
      have c7 : w1.cell? ⟨R, 7, none⟩ = some (.int .i64 q.bundle) := (hp1.blk.cell 7).trans rfl
      have f7 := hp1.blk.frozen 7
      have c8 : w1.cell? ⟨R, 8, none⟩ = some (.bool q.dn) := (hp1.blk.cell 8).trans rfl
      have f8 := hp1.blk.frozen 8
      obtain ⟨w2, hw2⟩ : ∃ w2, w2 = (World.drew (World.setCell (World.setCell (World.setCell (World.setCell (World.setCell w1 ⟨R, 4, none⟩ (.int .i64 m0)) ⟨R, 5, none⟩ (.int .i64 m1)) ⟨R, 6, none⟩ (.int .i64 m2)) ⟨R, 7, none⟩ (.int .i64 m3)) ⟨R, 8, none⟩ (.bool false))) := ⟨_, rfl⟩
      have hst0 : Stays (fun k => k = R) w1 w2 := by rw [hw2]; exact (Stays.drewN (Stays.cell ((Stays.cell ((Stays.cell ((Stays.cell ((Stays.cell (.refl _ w1) 4 (.int .i64 m0))) 5 (.int .i64 m1))) 6 (.int .i64 m2))) 7 (.int .i64 m3))) 8 (.bool false)) 1)
      have hbl0 : Blk w2 R (({ q with rows := m0, cols := m1, ream := m2, bundle := m3, dn := false } : PV).cells bv) 35 := by rw [hw2]; exact (Blk.drewN (Blk.set (Blk.set (Blk.set (Blk.set (Blk.set hp1.blk 4 (.int .i64 m0)) 5 (.int .i64 m1)) 6 (.int .i64 m2)) 7 (.int .i64 m3)) 8 (.bool false)) 1)
      have hst : Stays (fun k => k = R) w1 (w2.setCell ⟨R, 8, none⟩ (.bool t1)) := .cell hst0 8 _
      have hfin : RetRl w R res (.returned (.bool t2)) (w2.setCell ⟨R, 8, none⟩ (.bool t1)) := by
        refine ⟨(Stays.of b1).trans hst, ?_⟩
        rw [hrs2]
        cases t2 with
        | false => rfl
        | true => exact ⟨rfl, { q with rows := m0, cols := m1, ream := m2, bundle := m3, dn := t1 }, bv, ss, ⟨hbl0.set 8 (.bool t1), srw_stays hp1.row hst (fun L o m' c h h0 e => Nat.ne_of_gt (hp1.ne L o m' c h h0) e), hp1.ne, hp1.nl⟩, rfl⟩
      have g4 : w2.cell? ⟨L, o + 4, none⟩ = some (.int .i64 m4) := (World.cell?_of_block (a := ⟨L, o + 4, none⟩) (hst0.block L (World.block_lt_of_cell? w1 _ l4) hLR)).trans l4
      have g8 : w2.cell? ⟨R, 8, none⟩ = some (.bool false) := (hbl0.cell 8).trans rfl
      have k8 := hbl0.frozen 8
      have HFIN := Lib.hid hfin
      have HW2 := Lib.hid hw2
      clear hw2 hun HRES hrow hnr hl1 hst hfin hst0 hbl0 hp hp1 hr hsz hln hrs2
      go_upto_region 4 with fail
      go_region
      rw [← HW2.out]
      clear l0 l1 l2 l3 l4 c4 c5 c6 c7 c8 f4 f5 f6 f7 f8
      go_wp2_with (go_at_call 126; (with_reducible refine (HT.out _).mono ?_); rintro ex wz ⟨rfl, hz⟩; rw [hz]; clear hz)
      go_ret
      exact HFIN.out
end Go.Proofs.YtddnmocoaahlfaaGreatDoor
namespace Go.Proofs.YtddnmocoaahlfaaGreatDoor
open Go.RowKit Go.Shelf
abbrev fnv (acc : FuncId) : Value := .func (.func acc) #[] #[]
abbrev clo (B : Nat) : Value := .func (.func 125) #[] #[.pointer (some ⟨B, 0, none⟩)]
theorem single_make (acc : FuncId) (w : World) : Calls Tryz.prog 85 #[fnv acc] w (fun e w' => e = .returned (clo w.heap.size) ∧ w' = w.alloc (.cells #[fnv acc] 164)) := by
  go_enter Tryz.func85, Tryz.ntmps85
  go_wp2_with fail
  go_ret
  exact ⟨rfl, rfl⟩
/-- A function value that reads line k of a plant. -/
def Rdr (W : World) (R k : Nat) (f : Value) : Prop := ∃ (g : FuncId) (caps : Array Value), f = .func (.func g) #[] caps ∧ (∀ args w, (callFunc g args).run Tryz.prog w = .ok (.enter g args) w) ∧
  ∀ (W' : World) (q : PV) (bv pv : Value) (ss ps : List ByteArray), Stays (fun j => j = R) W W' → Env W' → PA W' R q bv ss → SRw W' pv ps → ps.length ≤ 65536 → (∀ x ∈ ps, x.size ≤ 65536) →
    (∀ L o m c, pv = .slice (some ⟨L, o, none⟩) m c → ps ≠ [] → L ≠ R) → (k = 2 → ss = []) → Calls Tryz.prog g (#[.pointer (some ⟨R, 0, none⟩), pv] ++ caps) W' (RetRl W' R (readLine k (q.pl (ss.map txt)) (ps.map txt)))
theorem enters125 (args : Array Value) (w : World) : (callFunc 125 args).run Tryz.prog w = .ok (.enter 125 args) w := enters_of Tryz.func125 (by kernel_rfl) rfl args w
theorem rdr_single {W : World} {R B k ci : Nat} {acc : FuncId} {upd : PV → Int → PV} {f : Pl → Int → Pl} (hB : Blk W B #[fnv acc] 164) (hne : B ≠ R) (hent : ∀ args w, (callFunc acc args).run Tryz.prog w = .ok (.enter acc args) w)
    (hacc : ∀ R W, Calls Tryz.prog acc #[.pointer (some ⟨R, 0, none⟩)] W (fun e w' => e = .returned (.pointer (some ⟨R, ci, none⟩)) ∧ w' = W)) (hc : ∀ (q : PV) (bv : Value), ∃ old, (q.cells bv)[ci]? = some (.int .i64 old))
    (hu : ∀ (q : PV) (bv : Value) (m : Int), (q.cells bv).setIfInBounds ci (.int .i64 m) = (upd q m).cells bv) (hf : ∀ (q : PV) (l : List (List UInt8)) (m : Int), (upd q m).pl l = f (q.pl l) m) (hk : ∀ p ps, readLine k p ps = (oneL ps).map (f p)) : Rdr W R k (clo B) := by
  refine ⟨125, #[.pointer (some ⟨B, 0, none⟩)], rfl, enters125, ?_⟩
  intro W' q bv pv ss ps hs he hp hr hl hsz _ _
  obtain ⟨old, ho⟩ := hc q bv
  rw [hk]
  exact single_any he hp hr hl hsz (((hB.stays hs hne).cell 0).trans rfl) hent (hacc R) ho (hu q bv) (hf q _)
theorem rdr0 (W : World) (R : Nat) : Rdr W R 0 (fnv 84) := ⟨84, #[], rfl, enters_of Tryz.func84 (by kernel_rfl) rfl, fun _ _ _ _ _ _ hs he hp hr hl hsz _ _ => alphabet_any he hp hr hl hsz⟩
theorem rdr3 (W : World) (R : Nat) : Rdr W R 3 (fnv 88) := ⟨88, #[], rfl, enters_of Tryz.func88 (by kernel_rfl) rfl, fun _ _ _ _ _ _ hs he hp hr hl hsz _ _ => check_any he hp hr hl hsz⟩
theorem rdr4 (W : World) (R : Nat) : Rdr W R 4 (fnv 89) := ⟨89, #[], rfl, enters_of Tryz.func89 (by kernel_rfl) rfl, fun _ _ _ _ _ _ hs he hp hr hl hsz _ _ => layout_any he hp hr hl hsz⟩
theorem rdr5 (W : World) (R : Nat) : Rdr W R 5 (fnv 90) := ⟨90, #[], rfl, enters_of Tryz.func90 (by kernel_rfl) rfl, fun _ _ _ _ _ _ hs he hp hr hl hsz _ _ => costs_any he hp hr hl hsz⟩
theorem rdr2 (W : World) (R : Nat) : Rdr W R 2 (fnv 87) := ⟨87, #[], rfl, enters_of Tryz.func87 (by kernel_rfl) rfl, fun _ _ _ _ _ _ hs he hp hr hl hsz hne h2 => by
  have h0 := h2 rfl
  subst h0
  rw [hp.nl rfl] at hp
  exact banned_any hp hr hl hsz hne⟩
theorem rdr1 {W : World} {R B : Nat} (hB : Blk W B #[fnv 86] 164) (hne : B ≠ R) : Rdr W R 1 (clo B) :=
  rdr_single (upd := fun q m => { q with ln := m }) (f := fun p m => { p with length := m }) hB hne enters86 acc86 (fun q bv => ⟨_, rfl⟩) (fun q bv m => rfl) (fun q l m => rfl) (fun p ps => rfl)
theorem rdr6 {W : World} {R B : Nat} (hB : Blk W B #[fnv 91] 164) (hne : B ≠ R) : Rdr W R 6 (clo B) :=
  rdr_single (upd := fun q m => { q with sheets := m }) (f := fun p m => { p with sheets := m }) hB hne enters91 acc91 (fun q bv => ⟨_, rfl⟩) (fun q bv m => rfl) (fun q l m => rfl) (fun p ps => rfl)
theorem rdr7 {W : World} {R B : Nat} (hB : Blk W B #[fnv 92] 164) (hne : B ≠ R) : Rdr W R 7 (clo B) :=
  rdr_single (upd := fun q m => { q with presses := m }) (f := fun p m => { p with presses := m }) hB hne enters92 acc92 (fun q bv => ⟨_, rfl⟩) (fun q bv m => rfl) (fun q l m => rfl) (fun p ps => rfl)
theorem rdr8 {W : World} {R B : Nat} (hB : Blk W B #[fnv 93] 164) (hne : B ≠ R) : Rdr W R 8 (clo B) :=
  rdr_single (upd := fun q m => { q with life := m }) (f := fun p m => { p with life := m }) hB hne enters93 acc93 (fun q bv => ⟨_, rfl⟩) (fun q bv m => rfl) (fun q l m => rfl) (fun p ps => rfl)
theorem rdr9 {W : World} {R B : Nat} (hB : Blk W B #[fnv 94] 164) (hne : B ≠ R) : Rdr W R 9 (clo B) :=
  rdr_single (upd := fun q m => { q with plates := m }) (f := fun p m => { p with plates := m }) hB hne enters94 acc94 (fun q bv => ⟨_, rfl⟩) (fun q bv m => rfl) (fun q l m => rfl) (fun p ps => rfl)
theorem rdr10 {W : World} {R B : Nat} (hB : Blk W B #[fnv 95] 164) (hne : B ≠ R) : Rdr W R 10 (clo B) :=
  rdr_single (upd := fun q m => { q with dry := m }) (f := fun p m => { p with dry := m }) hB hne enters95 acc95 (fun q bv => ⟨_, rfl⟩) (fun q bv m => rfl) (fun q l m => rfl) (fun p ps => rfl)
theorem rdr11 {W : World} {R B : Nat} (hB : Blk W B #[fnv 96] 164) (hne : B ≠ R) : Rdr W R 11 (clo B) :=
  rdr_single (upd := fun q m => { q with vaults := m }) (f := fun p m => { p with vaults := m }) hB hne enters96 acc96 (fun q bv => ⟨_, rfl⟩) (fun q bv m => rfl) (fun q l m => rfl) (fun p ps => rfl)
theorem rdr12 {W : World} {R B : Nat} (hB : Blk W B #[fnv 97] 164) (hne : B ≠ R) : Rdr W R 12 (clo B) :=
  rdr_single (upd := fun q m => { q with blocks := m }) (f := fun p m => { p with blocks := m }) hB hne enters97 acc97 (fun q bv => ⟨_, rfl⟩) (fun q bv m => rfl) (fun q l m => rfl) (fun p ps => rfl)
abbrev lineCells (B : Nat) : Array Value := #[.string ⟨#[97, 108, 112, 104, 97, 98, 101, 116]⟩, fnv 84, .string ⟨#[108, 101, 110, 103, 116, 104]⟩, clo (B), .string ⟨#[98, 97, 110, 110, 101, 100]⟩, fnv 87, .string ⟨#[99, 104, 101, 99, 107]⟩, fnv 88, .string ⟨#[108, 97, 121, 111, 117, 116]⟩, fnv 89, .string ⟨#[99, 111, 115, 116, 115]⟩, fnv 90, .string ⟨#[115, 104, 101, 101, 116, 115]⟩, clo (B + 1), .string ⟨#[112, 114, 101, 115, 115, 101, 115]⟩, clo (B + 1 + 1), .string ⟨#[108, 105, 102, 101]⟩, clo (B + 1 + 1 + 1), .string ⟨#[112, 108, 97, 116, 101, 115]⟩, clo (B + 1 + 1 + 1 + 1), .string ⟨#[100, 114, 121]⟩, clo (B + 1 + 1 + 1 + 1 + 1), .string ⟨#[118, 97, 117, 108, 116, 115]⟩, clo (B + 1 + 1 + 1 + 1 + 1 + 1), .string ⟨#[98, 108, 111, 99, 107, 115]⟩, clo (B + 1 + 1 + 1 + 1 + 1 + 1 + 1)]
theorem Blk.newAt {w : World} {n : Nat} (hn : w.heap.size = n) (cs : Array Value) (T : TypeId) : Blk (w.alloc (.cells cs T)) n cs T := by
  subst hn
  exact Blk.new w cs T
def boxes (w : World) (l : List FuncId) : World := l.foldl (fun w a => w.alloc (.cells #[fnv a] 164)) w
theorem boxes_size (l : List FuncId) (w : World) : (boxes w l).heap.size = w.heap.size + l.length := by
  induction l generalizing w with
  | nil => rfl
  | cons a l ih => show (boxes (w.alloc _) l).heap.size = _; rw [ih]; simp; omega
theorem boxes_keep (l : List FuncId) {w : World} {R : Nat} {cs : Array Value} {T : TypeId} (h : Blk w R cs T) : Blk (boxes w l) R cs T := by
  induction l generalizing w with
  | nil => exact h
  | cons a l ih => exact ih (h.alloc _)
theorem boxes_at (l : List FuncId) (w : World) (j : Nat) (h : j < l.length) : Blk (boxes w l) (w.heap.size + j) #[fnv l[j]] 164 := by
  induction l generalizing w j with
  | nil => simp at h
  | cons a l ih =>
    match j with
    | 0 => exact boxes_keep l (Blk.new w _ _)
    | j + 1 =>
      have := ih (w.alloc (.cells #[fnv a] 164)) j (by simpa using h)
      have e : (w.alloc (.cells #[fnv a] 164)).heap.size = w.heap.size + 1 := by simp
      rw [e, show w.heap.size + 1 + j = w.heap.size + (j + 1) by omega] at this
      exact this
theorem boxes_below (l : List FuncId) (w : World) {b : Nat} (h : b ≤ w.heap.size) : Below b w (boxes w l) := by
  induction l generalizing w with
  | nil => exact .refl _ _
  | cons a l ih => exact ((Below.refl b w).alloc h _).trans (ih (w.alloc _) (by simp; omega))
def lineBoxes : List FuncId := [86, 91, 92, 93, 94, 95, 96, 97]
/-- What plantLines ends in. -/
def RetLn (w : World) (R : Nat) (e : Ending) (w' : World) : Prop := Below w.heap.size w w' ∧ ∃ L, w.heap.size ≤ L ∧ e = .returned (.slice (some ⟨L, 0, none⟩) 13 13) ∧ ∀ k, k < 13 → ∃ f, w'.cell? ⟨L, k * 2, none⟩ = some (.string ⟨(plWords.getD k []).toArray⟩) ∧ w'.cell? ⟨L, k * 2 + 1, none⟩ = some f ∧ Rdr w' R k f
theorem lines_fin (w : World) (R : Nat) (hR : R < w.heap.size) : RetLn w R (.returned (.slice (some ⟨w.heap.size + 8, 0, none⟩) 13 13)) ((boxes w lineBoxes).alloc (.cells (lineCells w.heap.size) 103)) := by
  have hL : Blk ((boxes w lineBoxes).alloc (.cells (lineCells w.heap.size) 103)) (w.heap.size + 8) (lineCells w.heap.size) 103 := Blk.newAt (boxes_size lineBoxes w) _ _
  have hb : ∀ j (h : j < lineBoxes.length), Blk ((boxes w lineBoxes).alloc (.cells (lineCells w.heap.size) 103)) (w.heap.size + j) #[fnv lineBoxes[j]] 164 := fun j h => (boxes_at lineBoxes w j h).alloc _
  refine ⟨(boxes_below lineBoxes w (Nat.le_refl _)).trans ((Below.refl _ _).alloc (by rw [boxes_size]; omega) _), w.heap.size + 8, by omega, rfl, fun k hk => ?_⟩
  match k, hk with
  | 0, _ => exact ⟨_, (hL.cell 0).trans rfl, (hL.cell 1).trans rfl, rdr0 _ _⟩
  | 1, _ => exact ⟨_, (hL.cell 2).trans rfl, (hL.cell 3).trans rfl, rdr1 (hb 0 (by decide)) (by omega)⟩
  | 2, _ => exact ⟨_, (hL.cell 4).trans rfl, (hL.cell 5).trans rfl, rdr2 _ _⟩
  | 3, _ => exact ⟨_, (hL.cell 6).trans rfl, (hL.cell 7).trans rfl, rdr3 _ _⟩
  | 4, _ => exact ⟨_, (hL.cell 8).trans rfl, (hL.cell 9).trans rfl, rdr4 _ _⟩
  | 5, _ => exact ⟨_, (hL.cell 10).trans rfl, (hL.cell 11).trans rfl, rdr5 _ _⟩
  | 6, _ => exact ⟨_, (hL.cell 12).trans rfl, (hL.cell 13).trans rfl, rdr6 (hb 1 (by decide)) (by omega)⟩
  | 7, _ => exact ⟨_, (hL.cell 14).trans rfl, (hL.cell 15).trans rfl, rdr7 (hb 2 (by decide)) (by omega)⟩
  | 8, _ => exact ⟨_, (hL.cell 16).trans rfl, (hL.cell 17).trans rfl, rdr8 (hb 3 (by decide)) (by omega)⟩
  | 9, _ => exact ⟨_, (hL.cell 18).trans rfl, (hL.cell 19).trans rfl, rdr9 (hb 4 (by decide)) (by omega)⟩
  | 10, _ => exact ⟨_, (hL.cell 20).trans rfl, (hL.cell 21).trans rfl, rdr10 (hb 5 (by decide)) (by omega)⟩
  | 11, _ => exact ⟨_, (hL.cell 22).trans rfl, (hL.cell 23).trans rfl, rdr11 (hb 6 (by decide)) (by omega)⟩
  | 12, _ => exact ⟨_, (hL.cell 24).trans rfl, (hL.cell 25).trans rfl, rdr12 (hb 7 (by decide)) (by omega)⟩
  | k + 13, h => exact absurd h (by omega)
set_option maxRecDepth 100000 in
set_option maxHeartbeats 4000000 in
theorem lines_any (w : World) (R : Nat) (hR : R < w.heap.size) : Calls Tryz.prog 53 #[] w (RetLn w R) := by
  have HF := Lib.hid (lines_fin w R hR)
  go_enter Tryz.func53, Tryz.ntmps53
  have H := Lib.hid single_make
  go_wp2_with (first | (go_at_call 85; (with_reducible refine (H.out _ _).mono ?_); rintro ex wz ⟨rfl, rfl⟩))
  go_ret
  exact HF.out
end Go.Proofs.YtddnmocoaahlfaaGreatDoor
