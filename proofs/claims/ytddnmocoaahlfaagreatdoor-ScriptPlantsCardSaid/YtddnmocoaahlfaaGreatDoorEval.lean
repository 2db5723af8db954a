/-
  Eval: the value of an expression for names and their values, or its error. Conditions: the bounds that it states.
-/
import Derived.Test.YtddnmocoaahlfaaGreatDoorLine
import Derived.Test.YtddnmocoaahlfaaGreatDoorMach
import Derived.Test.YtddnmocoaahlfaaGreatDoorGuard
import Derived.StillTailTactics
import Derived.Laws.EntriesVeiled
import Derived.Deep.WholeRow
set_option linter.unusedVariables false
set_option linter.unusedSimpArgs false
namespace Go.Proofs.YtddnmocoaahlfaaGreatDoor
open Go.RowKit Go.Maps Go.WideMaps

/-- The names with their values, the first k of them laid. -/
def scopeUp (ns : List ByteArray) (vs : List Int) : Nat → List UInt8 → Option Int
  | 0 => fun _ => none
  | k + 1 => upd (scopeUp ns vs k) (txt ns[k]!) vs[k]!
def scopeOf (ns : List ByteArray) (vs : List Int) : List UInt8 → Option Int := scopeUp ns vs (min ns.length vs.length)
theorem hmakemap0 (t : TypeId) (w : World) : (Instr.makeMap t none).run Tryz.prog w = .ok (.map (some w.heap.size)) (w.alloc (.map #[] 0)) := rfl
theorem enters65 (args : Array Value) (w : World) : (callFunc 65 args).run Tryz.prog w = .ok (.enter 65 args) w := enters_of Tryz.func65 (by kernel_rfl) rfl args w
set_option maxRecDepth 100000 in
theorem evalf_ok {w : World} {X Y N m : Nat} {g : FuncId} {cap : Array Value} {F : Nat → Prop} {x : Ex} {σ : List UInt8 → Option Int} {n u : Int}
    (hX : w.cell? ⟨X, 0, none⟩ = some (.func (.func g) #[] cap)) (hY : w.cell? ⟨Y, 0, none⟩ = some (.map (some m))) (hN : w.cell? ⟨N, 0, none⟩ = some (.int .i64 u)) (hf : w.frozen? ⟨N, 0, none⟩ = false) (hx : ExC F w g cap x) (hm : Sc w m σ) (hv : x.eval σ = .ok n) :
    Calls Tryz.prog 65 #[ptr X, ptr Y, ptr N] w (fun e w' => e = .returned (.tuple #[]) ∧ ∃ w1, Below w.heap.size w w1 ∧ w' = w1.setCell ⟨N, 0, none⟩ (.int .i64 n)) := by
  have he := hx.enters
  have HC := Lib.hid (retx_ok hv (hx.call hm))
  have lN : N < w.heap.size := World.block_lt_of_cell? w _ hN
  clear hv hm
  go_enter Tryz.func65, Tryz.ntmps65
  go_wp2_with fail
  refine HC.out.mono ?_
  rintro e w1 ⟨rfl, b1⟩
  have n1 := cell_below hN b1
  have f1 : w1.frozen? ⟨N, 0, none⟩ = false := (World.frozen?_of_block (b1.block N lN)).trans hf
  clear hX hY hN hf
  go_wp2_with fail
  go_end0
  exact ⟨rfl, w1, b1, rfl⟩
set_option maxRecDepth 100000 in
theorem evalf_err {w : World} {X Y N m : Nat} {g : FuncId} {cap : Array Value} {F : Nat → Prop} {x : Ex} {σ : List UInt8 → Option Int} {k : Int}
    (hX : w.cell? ⟨X, 0, none⟩ = some (.func (.func g) #[] cap)) (hY : w.cell? ⟨Y, 0, none⟩ = some (.map (some m))) (hx : ExC F w g cap x) (hm : Sc w m σ) (hv : x.eval σ = .error k) :
    Calls Tryz.prog 65 #[ptr X, ptr Y, ptr N] w (fun e w' => e = .panicked [Tr k] ∧ Below w.heap.size w w') := by
  have he := hx.enters
  have HC := Lib.hid (retx_err hv (hx.call hm))
  clear hv hm
  go_enter Tryz.func65, Tryz.ntmps65
  go_wp2_with fail
  refine HC.out.mono ?_
  rintro e w1 ⟨rfl, b1⟩
  exact ⟨rfl, rfl, b1⟩
/-- Eval's results. -/
def RetE (w : World) (r : Int × Int) (e : Ending) (w' : World) : Prop := Below w.heap.size w w' ∧ e = .returned (.tuple #[.int .i64 r.1, .int .i64 r.2])
theorem SRow.form {w : World} {v : Value} {ss : List ByteArray} (h : SRow w v ss) : ∃ a c, v = .slice a ss.length c := by
  rcases h with ⟨rfl, a, c, rfl⟩ | ⟨_, L, o, c, rfl, _⟩
  · exact ⟨a, c, rfl⟩
  · exact ⟨_, c, rfl⟩
/-- A row of strings, whatever block it lies in. -/
def SRw (w : World) (v : Value) (ss : List ByteArray) : Prop :=
  (ss = [] ∧ ∃ a c, v = .slice a 0 c) ∨ (ss ≠ [] ∧ ∃ L o c, v = .slice (some ⟨L, o, none⟩) ss.length c ∧ ss.length ≤ c ∧ ∀ j (h : j < ss.length), w.cell? ⟨L, o + j, none⟩ = some (.string ss[j]))
theorem SRow.rw {w : World} {v : Value} {ss : List ByteArray} (h : SRow w v ss) : SRw w v ss := by
  rcases h with h | ⟨h0, L, o, c, h1, h2, _, h3⟩
  · exact .inl h
  · exact .inr ⟨h0, L, o, c, h1, h2, h3⟩
theorem SRw.below {w w' : World} {v : Value} {ss : List ByteArray} (h : SRw w v ss) (b : Below w.heap.size w w') : SRw w' v ss := by
  rcases h with h | ⟨h0, L, o, c, h1, h2, h3⟩
  · exact .inl h
  · exact .inr ⟨h0, L, o, c, h1, h2, fun j hj => cell_below (h3 j hj) b⟩
theorem SRw.form {w : World} {v : Value} {ss : List ByteArray} (h : SRw w v ss) : ∃ a c, v = .slice a ss.length c := by
  rcases h with ⟨rfl, a, c, rfl⟩ | ⟨_, L, o, c, rfl, _⟩
  · exact ⟨a, c, rfl⟩
  · exact ⟨_, c, rfl⟩
set_option maxRecDepth 100000 in
set_option maxHeartbeats 4000000 in
theorem eval_any {w : World} {s : ByteArray} {nv vv : Value} {ns : List ByteArray} {vs : List Int} (hs : s.size ≤ 65536) (he : ErrR w) (hn : SRw w nv ns) (hnb : ∀ x ∈ ns, x.size ≤ maxLen) (hv : NRow w vv vs) (hI : ∀ v ∈ vs, I64 v) (hl1 : ns.length ≤ 100) (hl2 : vs.length ≤ 100) :
    Calls Tryz.prog 34 #[.string s, nv, vv] w (RetE w (evalT (txt s) (scopeOf ns vs))) := by
  have HP := Lib.hid (parse_any hs he)
  obtain ⟨na, nc, rfl⟩ := hn.form
  obtain ⟨va, vc, rfl⟩ := hv.form
  have hmm := hmakemap0
  obtain ⟨r, hr⟩ : ∃ r, r = evalT (txt s) (scopeOf ns vs) := ⟨_, rfl⟩
  rw [← hr]
  unfold RetE
  have HR := Lib.hid hr
  clear hr
  cases hp : parseE (txt s) with
  | none =>
    rw [hp] at HP
    go_enter Tryz.func34, Tryz.ntmps34
    go_wp2_with fail
    refine HP.out.mono ?_
    rintro e w1 ⟨b1, v, hv1, rfl⟩
    have hst : Sem.run Tryz.prog (storeCells ⟨w1.heap.size, 0, none⟩ [v]) (w1.alloc (.cells #[.nilFunc] 133)) = .ok () (w1.alloc (.cells #[v] 133)) := by
      have := run_storeCells_new (P := Tryz.prog) w1 133 #[.nilFunc] #[v] (by kernel_rfl) rfl (by simpa using hv1)
      simpa using this
    have hr : r = (0, 4) := by rw [HR.out]; unfold evalT; simp only [hp]
    subst hr
    have HB := Lib.hid (b1.trans ((Below.refl w1.heap.size w1).alloc (Nat.le_refl _) (.cells #[v] 133) |>.mono b1.size))
    go_wp2_with fail
    rw [hst]
    go_wp2_with fail
    go_ret2
    exact ⟨HB.out, rfl⟩
  | some x =>
    rw [hp] at HP
    go_enter Tryz.func34, Tryz.ntmps34
    go_wp2_with fail
    refine HP.out.mono ?_
    rintro e w1 ⟨b1, g, cap, rfl, hx⟩
    obtain ⟨M, hM⟩ : ∃ M, M = min ns.length vs.length := ⟨_, rfl⟩
    have hmin : min (ns.length : Int) (vs.length : Int) = (M : Int) := by omega
    go_wp2_with fail
    obtain ⟨X, hX⟩ : ∃ X, X = w1.heap.size := ⟨_, rfl⟩
    obtain ⟨w2, hw2⟩ : ∃ w2, w2 = w1.alloc (.cells #[.func (.func g) #[] cap] 133) := ⟨_, rfl⟩
    obtain ⟨w3, hw3⟩ : ∃ w3, w3 = w2.alloc (.map #[] 0) := ⟨_, rfl⟩
    obtain ⟨w4, hw4⟩ : ∃ w4, w4 = w3.alloc (.cells #[.map (some (X + 1))] 119) := ⟨_, rfl⟩
    rw [← hX, ← hw2, ← hw3, ← hw4]
    have z2 : w2.heap.size = X + 1 := by rw [hw2]; simp [hX]
    have z3 : w3.heap.size = X + 2 := by rw [hw3]; simp [z2]
    have z4 : w4.heap.size = X + 3 := by rw [hw4]; simp [z3]
    have l2 : Below w1.heap.size w1 w2 := by rw [hw2]; exact (Below.refl _ _).alloc (Nat.le_refl _) _
    have l3 : Below w2.heap.size w2 w3 := by rw [hw3]; exact (Below.refl _ _).alloc (Nat.le_refl _) _
    have l4 : Below w3.heap.size w3 w4 := by rw [hw4]; exact (Below.refl _ _).alloc (Nat.le_refl _) _
    have l24 : Below w2.heap.size w2 w4 := l3.trans (l4.mono l3.size)
    have l14 : Below w1.heap.size w1 w4 := l2.trans (l24.mono l2.size)
    have l04 : Below w.heap.size w w4 := b1.trans (l14.mono b1.size)
    have sc3 : ScN w3 (X + 1) 0 (fun _ => none) := by rw [hw3, ← z2]; exact ScN.made w2
    have sc4 : ScN w4 (X + 1) 0 (scopeUp ns vs 0) := sc3.below l4
    have x2 : Blk w2 X #[.func (.func g) #[] cap] 133 := by rw [hw2, hX]; exact Blk.new w1 _ _
    have y4 : Blk w4 (X + 1 + 1) #[.map (some (X + 1))] 119 := by rw [hw4, show X + 1 + 1 = w3.heap.size by omega]; exact Blk.new w3 _ _
    have x4 : Blk w4 X #[.func (.func g) #[] cap] 133 := Blk.below x2 l24
    have hx4 := hx.below l14
    have hlt : w.heap.size ≤ X := by rw [hX]; exact b1.size
    have HX := Lib.hid hX
    clear hX hw2 hw3 hw4 z2 z3 l2 l3 l4 l24 sc3 x2 hx he HP
    have Z4 := Lib.hid z4
    clear z4
    go_loopw [28] (fun t wr => ∃ k : Nat, t = .int .i64 k ∧ k ≤ M ∧ ScN wr (X + 1) k (scopeUp ns vs k) ∧ Stays (fun j => j = X + 1) w4 wr) (fun t wr => M - (intOf t).toNat)
    case atStart => exact ⟨0, rfl, Nat.zero_le _, sc4, .refl _ _⟩
    case round =>
      obtain ⟨k, rfl, hk, hsc, hst⟩ := hrel
      have y5 : wr.cell? ⟨X + 1 + 1, 0, none⟩ = some (.map (some (X + 1))) := (World.cell?_of_block (a := ⟨X + 1 + 1, 0, none⟩) (hst.block (X + 1 + 1) (by have := Z4.out; omega) (by omega))).trans ((y4.cell 0).trans rfl)
      by_cases hlt2 : k < M
      · have dk : decide ((k : Int) < (M : Int)) = true := decide_eq_true (by omega)
        have kn : k < ns.length := by omega
        have kv : k < vs.length := by omega
        rcases hn with ⟨h0, _⟩ | ⟨_, L, o, c, hs1, hs2, hs3⟩
        · rw [h0] at kn; cases kn
        rcases hv with ⟨h0, _⟩ | ⟨_, L', o', c', ht1, ht2, ht3⟩
        · rw [h0] at kv; cases kv
        cases hs1
        cases ht1
        have hLk := World.block_lt_of_cell? w _ (hs3 k kn)
        have hLk' := World.block_lt_of_cell? w _ (ht3 k kv)
        have q1 : wr.cell? ⟨L, o + k, none⟩ = some (.string ns[k]) := (World.cell?_of_block (a := ⟨L, o + k, none⟩) (hst.block L (Nat.lt_of_lt_of_le hLk l04.size) (by have : L < w.heap.size := hLk; omega))).trans (cell_below (hs3 k kn) l04)
        have q2 : wr.cell? ⟨L', o' + k, none⟩ = some (.int .i64 vs[k]) := (World.cell?_of_block (a := ⟨L', o' + k, none⟩) (hst.block L' (Nat.lt_of_lt_of_le hLk' l04.size) (by have : L' < w.heap.size := hLk'; omega))).trans (cell_below (ht3 k kv) l04)
        have hnk := hnb _ (List.getElem_mem kn)
        have hvk := hI _ (List.getElem_mem kv)
        go_wp2_with fail
        go_still_tail 9, (by kernel_rfl)
        obtain ⟨D, hown, hscp⟩ := hsc
        refine wpList_mapUpdate_own _ rfl _ _ _ 119 rfl 9 3 law9 Tryz.underlying119 (plainElem Tryz.prog 3) (X + 1) k D rfl hown.drew (by unfold maxLen; omega) _ _ (.string (txt ns[k])) rfl rfl (keyOf_string_mk Tryz.underlying9 hnk) (.lit (.int .i64 vs[k])) [] (plainElem_int Tryz.underlying3 (WalkArith.wf_i64 hvk)) ?_
        intro w5 hown5 hgrow5
        have r4 : ScN w5 (X + 1) (k + 1) (scopeUp ns vs (k + 1)) := by
          have := ScN.put hown hscp hown5
          unfold scopeUp
          rw [show ns[k]! = ns[k] by simp [kn], show vs[k]! = vs[k] by simp [kv]]
          exact this
        have g5 : wr.grownBy w5 (some (X + 1)) := ⟨hgrow5.os, hgrow5.tape, hgrow5.output, hgrow5.size, hgrow5.block⟩
        have st5 : Stays (fun j => j = X + 1) w4 w5 := hst.trans ((grown_stays g5).mono (fun k _ e => by cases e; rfl))
        clear hown hscp hown5 hgrow5 g5 q1 q2
        go_wp2_with fail
        go_roundw
        case rel => exact ⟨k + 1, by go_num, by omega, r4, st5⟩
        case measure => simp [intOf]; omega
      · have hkM : k = M := by omega
        subst hkM
        have dk : decide ((k : Int) < (k : Int)) = false := decide_eq_false (by omega)
        have hsc' : Sc wr (X + 1) (scopeOf ns vs) := by unfold scopeOf; rw [← hM]; exact hsc.sc
        have hbw : Below w.heap.size w wr := l04.trans (hst.below l04.size (fun j hj e => by omega))
        have hZ := Z4.out
        have hsz := hst.size
        obtain ⟨w5, hw5⟩ : ∃ w5, w5 = wr.alloc (.cells #[.int .i64 0] 3) := ⟨_, rfl⟩
        obtain ⟨w6, hw6⟩ : ∃ w6, w6 = w5.alloc (.cells #[.int .i64 0] 38) := ⟨_, rfl⟩
        obtain ⟨N, hN⟩ : ∃ N, N = wr.heap.size := ⟨_, rfl⟩
        have z5 : w5.heap.size = N + 1 := by rw [hw5]; simp [hN]
        have l5 : Below wr.heap.size wr w5 := by rw [hw5]; exact (Below.refl _ _).alloc (Nat.le_refl _) _
        have l6 : Below w5.heap.size w5 w6 := by rw [hw6]; exact (Below.refl _ _).alloc (Nat.le_refl _) _
        have l56 : Below wr.heap.size wr w6 := l5.trans (l6.mono l5.size)
        have hb6 : Below w.heap.size w w6 := hbw.trans (l56.mono hbw.size)
        have x6 : Blk w6 X #[.func (.func g) #[] cap] 133 := Blk.below (Blk.stays x4 hst (by omega)) l56
        have y6 : Blk w6 (X + 1 + 1) #[.map (some (X + 1))] 119 := Blk.below (Blk.stays y4 hst (by omega)) l56
        have n5 : Blk w5 N #[.int .i64 0] 3 := by rw [hw5, hN]; exact Blk.new wr _ _
        have n6 : Blk w6 N #[.int .i64 0] 3 := Blk.below n5 l6
        have g6 : Blk w6 (N + 1) #[.int .i64 0] 38 := by rw [hw6, ← z5]; exact Blk.new w5 _ _
        have hx6 : ExC (New w w1) w6 g cap x := (hx4.stays hst (fun j hj e => by have := hj.2; have := HX.out; omega)).below l56
        have sc6 : Sc w6 (X + 1) (scopeOf ns vs) := hsc'.below l56
        have hwN : w.heap.size ≤ N := by rw [hN]; exact hbw.size
        have hst2 : ∀ (w7 : World) (u v : Value), Below w6.heap.size w6 w7 → Below w.heap.size w ((w7.setCell ⟨N, 0, none⟩ u).setCell ⟨N + 1, 0, none⟩ v) := by
          intro w7 u v b7
          have h7 := hb6.trans (b7.mono hb6.size)
          exact h7.trans ((((Stays.refl (fun j => j = N ∨ j = N + 1) w7).set (p := ⟨N, 0, none⟩) (.inl (.inl rfl)) u).set (p := ⟨N + 1, 0, none⟩) (.inl (.inr rfl)) v).below h7.size (fun j hj e => by omega))
        cases hv : x.eval (scopeOf ns vs) with
        | ok n =>
          have hr : r = (n, 0) := by rw [HR.out]; unfold evalT; simp only [hp, hv]
          have HG := guard_ok (g := 65) (cap := #[ptr X, ptr (X + 1 + 1), ptr N]) (w := w5) (Q := fun w' => ∃ w7, Below w6.heap.size w6 w7 ∧ w' = w7.setCell ⟨N, 0, none⟩ (.int .i64 n)) enters65
            (by rw [← hw6]; exact evalf_ok x6.one y6.one n6.one (n6.frozen 0) hx6 sc6 hv)
            (by
              rintro w' ⟨w7, b7, rfl⟩
              rw [z5]
              have g8 : Blk (w7.setCell ⟨N, 0, none⟩ (.int .i64 n)) (N + 1) #[.int .i64 0] 38 := Blk.stays (Blk.below g6 b7) ((Stays.refl (fun j => j = N) w7).set (p := ⟨N, 0, none⟩) (.inl rfl) _) (by omega)
              exact ⟨g8.one, g8.frozen 0⟩)
          have HG2 : Calls Tryz.prog 59 #[.func (.func 65) #[] #[ptr X, ptr (X + 1 + 1), ptr N]] w5 (fun e w8 => e = .returned (.int .i64 0) ∧ Below w.heap.size w w8 ∧ w8.cell? ⟨N, 0, none⟩ = some (.int .i64 n)) := by
            refine HG.mono ?_
            rintro e w8 ⟨rfl, w', ⟨w7, b7, rfl⟩, rfl⟩
            rw [z5]
            refine ⟨rfl, hst2 w7 _ _ b7, ?_⟩
            have n8 : Blk (w7.setCell ⟨N, 0, none⟩ (.int .i64 n)) N #[.int .i64 n] 3 := Blk.set (Blk.below n6 b7) 0 (.int .i64 n)
            exact (Blk.stays n8 ((Stays.refl (fun j => j = N + 1) _).set (p := ⟨N + 1, 0, none⟩) (.inl rfl) _) (by omega)).one
          rw [hw5, hN] at HG2
          have HGH := Lib.hid HG2
          subst hr
          clear HG HG2 hst2
          clear hx6 sc6 g6 n6 n5 y6 x6
          clear hb6 l56 l6 l5 z5
          clear hw6
          clear hw5
          clear hN hwN
          clear hsz hZ hbw hsc'
          clear hsc hst hx4 x4 y4
          go_wp2_with fail
          refine HGH.out.mono ?_
          rintro e w8 ⟨rfl, b8, c8⟩
          go_wp2_with fail
          go_ret2
          exact ⟨b8, rfl⟩
        | error q =>
          have hr : r = (0, q) := by rw [HR.out]; unfold evalT; simp only [hp, hv]
          have hq := eval_err hv
          have HG := guard_err (g := 65) (cap := #[ptr X, ptr (X + 1 + 1), ptr N]) (w := w5) (k := q) (Q := fun w' => Below w6.heap.size w6 w') enters65
            (by rw [← hw6]; exact evalf_err x6.one y6.one hx6 sc6 hv)
            (by
              intro w' b7
              rw [z5]
              have g8 := Blk.below g6 b7
              exact ⟨g8.one, g8.frozen 0⟩)
          have HG2 : Calls Tryz.prog 59 #[.func (.func 65) #[] #[ptr X, ptr (X + 1 + 1), ptr N]] w5 (fun e w8 => e = .returned (.int .i64 q) ∧ Below w.heap.size w w8) := by
            refine HG.mono ?_
            rintro e w8 ⟨rfl, w7, b7, s7⟩
            rw [z5] at s7
            have h7 := hb6.trans (b7.mono hb6.size)
            exact ⟨rfl, h7.trans (s7.below h7.size (fun j hj e => by omega))⟩
          rw [hw5, hN] at HG2
          have HGH := Lib.hid HG2
          have zq : (q != 0) = true := by rcases hq with rfl | rfl <;> rfl
          subst hr
          clear HG HG2 hst2
          clear hx6 sc6 g6 n6 n5 y6 x6
          clear hb6 l56 l6 l5 z5
          clear hw6
          clear hw5
          clear hN hwN
          clear hsz hZ hbw hsc'
          clear hsc hst hx4 x4 y4 hq
          go_wp2_with fail
          refine HGH.out.mono ?_
          rintro e w8 ⟨rfl, b8⟩
          go_wp2_with fail
          go_ret2
          exact ⟨b8, rfl⟩
end Go.Proofs.YtddnmocoaahlfaaGreatDoor
