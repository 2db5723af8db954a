/-
  The machine that executes a script: step and values. Conditions: what each states of the machine's block.
-/
import Derived.Test.YtddnmocoaahlfaaGreatDoorY29
set_option linter.unusedVariables false
set_option linter.unusedSimpArgs false
set_option maxRecDepth 100000
set_option maxHeartbeats 1000000
namespace Go.Proofs.YtddnmocoaahlfaaGreatDoor
open Go.RowKit Go.Maps Go.WideMaps
def ScN (W : World) (m n : Nat) (σ : List UInt8 → Option Int) : Prop := ∃ D, W.ownsMap Tryz.prog 9 (plainElem Tryz.prog 3) m n D ∧ Scope D σ
theorem ScN.sc {W : World} {m n : Nat} {σ : List UInt8 → Option Int} (h : ScN W m n σ) : Sc W m σ := let ⟨D, h1, h2⟩ := h; ⟨n, D, h1, h2⟩
theorem ScN.mono {W : World} {m n k : Nat} {σ : List UInt8 → Option Int} (h : ScN W m n σ) (hk : n ≤ k) : ScN W m k σ := let ⟨D, h1, h2⟩ := h; ⟨D, h1.mono hk, h2⟩
theorem ScN.stays {M : Nat → Prop} {W W' : World} {m n : Nat} {σ : List UInt8 → Option Int} (h : ScN W m n σ) (b : Stays M W W') (hm : ¬ M m) : ScN W' m n σ := by
  obtain ⟨D, h1, h2⟩ := h
  refine ⟨D, ?_, h2⟩
  obtain ⟨es, clock, hb, rest⟩ := h1
  exact ⟨es, clock, (b.block m (Array.getElem?_eq_some_iff.1 hb).1 hm).trans hb, rest⟩
theorem ScN.below {W W' : World} {m n : Nat} {σ : List UInt8 → Option Int} (h : ScN W m n σ) (b : Below W.heap.size W W') : ScN W' m n σ := h.stays (M := fun _ => False) (.of b) (fun h => h)
theorem ScN.lt {W : World} {m n : Nat} {σ : List UInt8 → Option Int} (h : ScN W m n σ) : m < W.heap.size := let ⟨_, h1, _⟩ := h; h1.lt
theorem ScN.ne {W : World} {m n k : Nat} {σ : List UInt8 → Option Int} {cs : Array Value} {T : TypeId} (h : ScN W m n σ) (hb : Blk W k cs T) : m ≠ k := by
  rintro rfl
  obtain ⟨D, ⟨es, clock, h1, _⟩, _⟩ := h
  unfold Blk at hb
  rw [h1] at hb
  cases hb
theorem ScN.made (w : World) : ScN (w.alloc (.map #[] 0)) w.heap.size 0 (fun _ => none) := ⟨.map [], World.ownsMap_made _ _ _ _, fun s => ⟨rfl, fun v h => by cases h⟩⟩
theorem key_lit {s : List UInt8} : WideAt.IsKeyLit (.string s) := by unfold WideAt.IsKeyLit; trivial
theorem scope_put {D : DataW Unit} {σ : List UInt8 → Option Int} (h : Scope D σ) (hD : IsMap D) (s : List UInt8) (v : Int) : Scope (D.put (.string s) (.lit (.int .i64 v))) (upd σ s v) := by
  intro t
  unfold upd
  by_cases ht : t = s
  · subst ht
    rw [if_pos rfl]
    exact ⟨has_put_same hD key_lit _, fun u hu => by cases hu; exact atKey_put_same hD key_lit _ _⟩
  · rw [if_neg ht]
    have hne : Lit.string t ≠ Lit.string s := fun e => ht (by injection e)
    rw [has_put_other hne]
    refine ⟨(h t).1, fun u hu => ?_⟩
    rw [atKey_put_other hne]
    exact (h t).2 u hu
theorem ScN.put {w w1 : World} {m n : Nat} {D : DataW Unit} {σ : List UInt8 → Option Int} (hD : w.ownsMap Tryz.prog 9 (plainElem Tryz.prog 3) m n D) (hs : Scope D σ) {s : List UInt8} {v : Int} (h : w1.ownsMap Tryz.prog 9 (plainElem Tryz.prog 3) m (n + 1) (D.put (.string s) (.lit (.int .i64 v)))) : ScN w1 m (n + 1) (upd σ s v) := by
  refine ⟨_, h, scope_put hs ?_ s v⟩
  obtain ⟨es, clock, _, _, _, rfl⟩ := hD
  exact ⟨_, rfl⟩
theorem Stays.cell {mb : Nat} {a w : World} (h : Stays (fun k => k = mb) a w) (i : Nat) (v : Value) : Stays (fun k => k = mb) a (w.setCell ⟨mb, i, none⟩ v) := h.set (p := ⟨mb, i, none⟩) (.inl rfl) v
def MBlk (w : World) (mb m n : Nat) (va : Value) (line : Int) : Prop := Blk w mb #[.map (some m), .int .i64 n, va, .int .i64 line] 121
theorem step_ok {w : World} {mb m n : Nat} {va : Value} {l0 : Int} (line : Nat) (hb : MBlk w mb m n va l0) (hn : n + 1 ≤ 16384) :
    Calls Tryz.prog 103 #[ptr mb, .int .i64 line] w (fun e w' => e = .returned (.tuple #[]) ∧ Stays (fun k => k = mb) w w' ∧ MBlk w' mb m (n + 1) va line) := by
  unfold MBlk at *
  have b1 := hb.set 3 (.int .i64 line)
  have s1 : Stays (fun k => k = mb) w (w.setCell ⟨mb, 3, none⟩ (.int .i64 line)) := Stays.cell (.refl _ w) 3 _
  have c1 : (w.setCell ⟨mb, 3, none⟩ (.int .i64 line)).cell? ⟨mb, 1, none⟩ = some (.int .i64 n) := (b1.cell 1).trans rfl
  have f0 := hb.frozen 3
  have c0 : w.cell? ⟨mb, 3, none⟩ = some (.int .i64 l0) := (hb.cell 3).trans rfl
  have f1 := b1.frozen 1
  have b2 := b1.set 1 (.int .i64 (n + 1 : Nat))
  have s2 : Stays (fun k => k = mb) w ((w.setCell ⟨mb, 3, none⟩ (.int .i64 line)).setCell ⟨mb, 1, none⟩ (.int .i64 (n + 1 : Nat))) := s1.cell 1 _
  have c2 : ((w.setCell ⟨mb, 3, none⟩ (.int .i64 line)).setCell ⟨mb, 1, none⟩ (.int .i64 (n + 1 : Nat))).cell? ⟨mb, 1, none⟩ = some (.int .i64 (n + 1 : Nat)) := (b2.cell 1).trans rfl
  have hd : decide ((16384 : Int) < ((n + 1 : Nat) : Int)) = false := decide_eq_false (by omega)
  go_enter Tryz.func103, Tryz.ntmps103
  go_wp2_with fail
  go_end0
  exact ⟨rfl, s2, b2⟩
theorem step_full {w : World} {mb m n : Nat} {va : Value} {l0 : Int} (line : Nat) (hb : MBlk w mb m n va l0) (hn : n = 16384) :
    Calls Tryz.prog 103 #[ptr mb, .int .i64 line] w (fun e w' => e = .panicked [Tr 5] ∧ Stays (fun k => k = mb) w w' ∧ MBlk w' mb m (n + 1) va line) := by
  unfold MBlk at *
  have b1 := hb.set 3 (.int .i64 line)
  have s1 : Stays (fun k => k = mb) w (w.setCell ⟨mb, 3, none⟩ (.int .i64 line)) := Stays.cell (.refl _ w) 3 _
  have c1 : (w.setCell ⟨mb, 3, none⟩ (.int .i64 line)).cell? ⟨mb, 1, none⟩ = some (.int .i64 n) := (b1.cell 1).trans rfl
  have f0 := hb.frozen 3
  have c0 : w.cell? ⟨mb, 3, none⟩ = some (.int .i64 l0) := (hb.cell 3).trans rfl
  have f1 := b1.frozen 1
  have b2 := b1.set 1 (.int .i64 (n + 1 : Nat))
  have s2 : Stays (fun k => k = mb) w ((w.setCell ⟨mb, 3, none⟩ (.int .i64 line)).setCell ⟨mb, 1, none⟩ (.int .i64 (n + 1 : Nat))) := s1.cell 1 _
  have c2 : ((w.setCell ⟨mb, 3, none⟩ (.int .i64 line)).setCell ⟨mb, 1, none⟩ (.int .i64 (n + 1 : Nat))).cell? ⟨mb, 1, none⟩ = some (.int .i64 (n + 1 : Nat)) := (b2.cell 1).trans rfl
  have hd : decide ((16384 : Int) < ((n + 1 : Nat) : Int)) = true := decide_eq_true (by omega)
  have hle : n ≤ 16384 := by omega
  have hge : 16384 ≤ n := by omega
  clear hn
  go_enter Tryz.func103, Tryz.ntmps103
  go_wp2_with (go_at_call 105; refine (fail_any 5 _).mono ?_; rintro e w' ⟨rfl, rfl⟩)
  all_goals first | exact ⟨rfl, rfl, s2, b2⟩ | (exfalso; omega)
abbrev IRow (w : World) (b0 : Nat) (v : Value) (l : List Int) : Prop := w.ownsRow b0 3 1 v l.length (l.map fun n => .int .i64 n)
theorem info3 : (Tryz.prog.info? 3).map (fun i => (i.zero, i.size, i.bytes)) = some (some (.int .i64 0), 1, 8) := by kernel_rfl
theorem row_get {w : World} {b L : Nat} {e : TypeId} {n cap : Nat} {xs : List Value} (h : w.ownsRow b e 1 (.slice (some ⟨L, 0, none⟩) n cap) n xs) (hn : 0 < n) (i : Nat) (hi : i < xs.length) : w.cell? ⟨L, i, none⟩ = some xs[i] := by
  rcases h.2 with ⟨h1, _⟩ | ⟨g, cap', cur, hv, _, hg, _, _, _, ht⟩
  · cases h1
  · injection hv with e1 e2 e3
    injection e1 with e1
    injection e1 with e1
    subst e1
    have : w.cell? ⟨L, i, none⟩ = cur[i]? := by simp [World.cell?, hg]
    rw [this]
    have hx : xs[i]? = some xs[i] := List.getElem?_eq_getElem hi
    rw [← hx]
    have hlen := h.1
    have hin : i < n * 1 := by omega
    rw [← ht, List.getElem?_take, if_pos hin]
    simp
theorem evalAll_snoc {σ : List UInt8 → Option Int} {x : Ex} {xs : List Ex} : ∀ {k : Nat}, xs[k]? = some x → ∀ {n : Int}, x.eval σ = .ok n → ∀ zs : List Int,
    (match evalAll σ (xs.drop k) with | .ok r => Except.ok (ε := Int) (zs ++ r) | .error e => .error e) = (match evalAll σ (xs.drop (k + 1)) with | .ok r => .ok ((zs ++ [n]) ++ r) | .error e => .error e) := by
  intro k hk n hn zs
  obtain ⟨hlt, rfl⟩ := List.getElem?_eq_some_iff.1 hk
  rw [List.drop_eq_getElem_cons hlt]
  simp only [evalAll, hn]
  cases evalAll σ (xs.drop (k + 1)) <;> simp
theorem evalAll_stop {σ : List UInt8 → Option Int} {x : Ex} {xs : List Ex} {k : Nat} (hk : xs[k]? = some x) {e : Int} (he : x.eval σ = .error e) : evalAll σ (xs.drop k) = .error e := by
  obtain ⟨hlt, rfl⟩ := List.getElem?_eq_some_iff.1 hk
  rw [List.drop_eq_getElem_cons hlt]
  simp only [evalAll, he]
def evalFrom (σ : List UInt8 → Option Int) (zs : List Int) (r : List Ex) : Except Int (List Int) := match evalAll σ r with | .ok l => .ok (zs ++ l) | .error e => .error e
theorem evalFrom_next {σ : List UInt8 → Option Int} {x : Ex} {xs : List Ex} {k : Nat} (hk : xs[k]? = some x) {n : Int} (hn : x.eval σ = .ok n) (zs : List Int) : evalFrom σ zs (xs.drop k) = evalFrom σ (zs ++ [n]) (xs.drop (k + 1)) := evalAll_snoc hk hn zs
theorem evalFrom_stop {σ : List UInt8 → Option Int} {x : Ex} {xs : List Ex} {k : Nat} (hk : xs[k]? = some x) {e : Int} (he : x.eval σ = .error e) (zs : List Int) : evalFrom σ zs (xs.drop k) = .error e := by unfold evalFrom; rw [evalAll_stop hk he]
theorem evalFrom_start (σ : List UInt8 → Option Int) (xs : List Ex) : evalFrom σ [] xs = evalAll σ xs := by unfold evalFrom; cases evalAll σ xs <;> rfl
theorem evalFrom_end (σ : List UInt8 → Option Int) (zs : List Int) {xs : List Ex} {k : Nat} (hk : xs.length ≤ k) : evalFrom σ zs (xs.drop k) = .ok zs := by rw [List.drop_of_length_le hk]; simp [evalFrom, evalAll]
def RetL (w : World) (r : Except Int (List Int)) (e : Ending) (w' : World) : Prop := Below w.heap.size w w' ∧ match r with
  | .ok l => ∃ vr, e = .returned vr ∧ IRow w' w.heap.size vr l
  | .error k => e = .panicked [Tr k]
theorem one_new (w : World) (u : Value) (T : TypeId) : ∀ j x, [u][j]? = some x → (w.alloc (.cells #[u] T)).cell? ((⟨w.heap.size, 0, none⟩ : Addr).add j) = some x := World.news_of_block (heap_alloc_new w _)
theorem irow_snoc {w : World} {b : Nat} {v : Value} {zs : List Int} {n : Int} (h : w.ownsRow b 3 1 v (zs.length + 1) (zs.map (fun n => Value.int .i64 n) ++ [.int .i64 n])) : IRow w b v (zs ++ [n]) := by
  unfold IRow; simpa using h
set_option maxHeartbeats 4000000 in
theorem values_any {w : World} {F : Nat → Prop} {mb m n : Nat} {va v : Value} {line : Int} {xs : List Ex} {σ : List UInt8 → Option Int} (hb : MBlk w mb m n va line) (hm : Sc w m σ) (ha : ArgsAt w F v xs) (hx : xs.length ≤ 65536) :
    Calls Tryz.prog 104 #[ptr mb, v] w (RetL w (evalAll σ xs)) := by
  obtain ⟨fs, hrow, hF, hall⟩ := ha
  have hlen := hall.len
  obtain ⟨i0, hi, hz0, hz1, hz2⟩ := info_parts info3
  obtain ⟨res, hres⟩ : ∃ res, res = evalAll σ xs := ⟨_, rfl⟩
  rw [← hres]
  have c0 : w.cell? ⟨mb, 0, none⟩ = some (.map (some m)) := (Blk.cell hb 0).trans rfl
  rcases hrow.2 with ⟨rfl, h0⟩ | ⟨L, cap, cur, rfl, _, hL, hncap, hcapm, hsz, htake⟩
  · have hx0 : xs = [] := List.length_eq_zero_iff.1 (by omega)
    subst hx0
    subst hres
    go_enter Tryz.func104, Tryz.ntmps104
    go_wp2_with fail
    refine wp_loop_rounds 1 ?_
    rw [rounds_succ]
    go_wp2_with fail
    go_ret
    exact ⟨Below.refl _ _, _, rfl, World.ownsRow_nil _ _ _ _⟩
  · have hcur : ∀ i (hi : i < fs.length), w.cell? ⟨L, i, none⟩ = some (fval fs[i]) := by
      intro i hi
      have := row_get hrow (by omega) i (by simpa using hi)
      rw [this]; simp
    go_enter Tryz.func104, Tryz.ntmps104
    go_wp2_with fail
    go_loopw [10, 5] (fun t v5 wr => ∃ (k : Nat) (zs : List Int), t = .int .i64 k ∧ k ≤ fs.length ∧ zs.length = k ∧ evalFrom σ zs (xs.drop k) = res ∧ IRow wr w.heap.size v5 zs ∧ Below w.heap.size w wr) (fun t v5 wr => fs.length - (intOf t).toNat)
    case atStart => exact ⟨0, [], rfl, Nat.zero_le _, rfl, (evalFrom_start _ _).trans hres.symm, World.ownsRow_nil _ _ _ _, Below.refl _ _⟩
    case round =>
      obtain ⟨k, zs, rfl, hk, hzk, hev, hown, hbl⟩ := hrel
      by_cases hlt : k < fs.length
      · obtain ⟨x, hxk, hex⟩ := hall.get k hlt
        have hex1 := hex.below hbl
        have hm1 := hm.below hbl
        have ck := cell_below (hcur k hlt) hbl
        have c01 := cell_below c0 hbl
        have e1 := hex1.enters
        have hgt : (fs[k]).1 = (fs[k]).1 := rfl
        generalize hf : fs[k] = f at *
        have HE := Lib.hid hev
        clear hev
        cases hv : x.eval σ with
        | error e =>
          have hr : res = .error e := by rw [← HE.out, evalFrom_stop hxk hv]
          have HR := Lib.hid hr
          clear hr
          go_wp2_with fail
          refine (retx_err hv (hex1.call hm1)).mono ?_
          rintro e w1 ⟨rfl, b1⟩
          refine ⟨rfl, ?_⟩
          unfold RetL
          rw [HR.out]
          exact ⟨hbl.trans (b1.mono hbl.size), rfl⟩
        | ok r =>
          go_wp2_with fail
          refine (retx_ok hv (hex1.call hm1)).mono ?_
          rintro e w1 ⟨rfl, b1⟩
          have hown1 : w1.ownsRow w.heap.size 3 1 _ zs.length (zs.map fun n => Value.int .i64 n) := row_keep hown (fun j hj => b1.block j (hown.lt j hj).2)
          have hbl1 := hbl.trans (b1.mono hbl.size)
          go_wp2_with (at_builtin; refine wpList_append_lies _ rfl _ _ 22 rfl w.heap.size 3 i0 (.int .i64 0) 1 8 Tryz.underlying22 hi hz0 hz1 hz2 rfl (by decide) _ _ _ rfl (hown1.alloc _) ⟨w1.heap.size, 0, none⟩ 1 1 [.int .i64 r] rfl rfl (one_new _ _ _) (by simp [Value.oneCell']) (by decide) (by unfold maxLen; omega) (by omega) (by have := hbl1.size; simp; omega) _ rfl ?_; intro g cap2 w2 hown2 hgr hat hg2)
          have hbl2 : Below w.heap.size w w2 := (hbl1.alloc hbl1.size _).grown hgr (by have := hbl1.size; simp; omega) (fun j hj => (hown.lt j hj).1)
          go_wp2_with fail
          go_roundw
          case rel => exact ⟨k + 1, zs ++ [r], by go_num, by omega, by simp [hzk], (evalFrom_next hxk hv zs).symm.trans HE.out, (by have h9 := irow_snoc hown2; rw [hzk] at h9; exact h9), hbl2⟩
          case measure => simp [intOf]; omega
      · have hkk : k = fs.length := by omega
        have hr : res = .ok zs := by rw [← hev, evalFrom_end _ _ (by omega)]
        have HR := Lib.hid hr
        clear hr hev
        go_wp2_with fail
        go_ret
        unfold RetL
        rw [HR.out]
        exact ⟨hbl, _, rfl, hown⟩
end Go.Proofs.YtddnmocoaahlfaaGreatDoor
