/-
  What an expression's value in the program is: a function value whose call gives the expression's value.
  strconv.Atoi at rows of digits; the product; the lines of the grammar as the program lays them. Conditions: the bounds that each states.
-/
import Derived.Test.YtddnmocoaahlfaaGreatDoorBase
import Derived.Maps.Own
import Derived.Maps.OwnOps
import Derived.Maps.OwnSet
import Derived.StringKeys
import Derived.Shelf.Abstract
import Derived.Test.YtddnmocoaahlfaaGreatDoorShelf
import Derived.Test.YtddnmocoaahlfaaGreatDoorTok
import Derived.Lib.AtoiAllCases
import Derived.Lib.SmallJoins
set_option linter.unusedVariables false
set_option linter.unusedSimpArgs false
set_option maxHeartbeats 1000000
namespace Go.Proofs.YtddnmocoaahlfaaGreatDoor
open Go.RowKit Go.Maps Go.WideMaps
def Scope (D : DataW Unit) (σ : List UInt8 → Option Int) : Prop := ∀ s : List UInt8, Maps.has D (.string s) = (σ s).isSome ∧ ∀ v, σ s = some v → D.atKey (.string s) (.lit (.int .i64 0)) = .lit (.int .i64 v)
def Sc (W : World) (m : Nat) (σ : List UInt8 → Option Int) : Prop := ∃ n D, W.ownsMap Tryz.prog 9 (plainElem Tryz.prog 3) m n D ∧ Scope D σ
theorem Sc.stays {M : Nat → Prop} {W W' : World} {m : Nat} {σ : List UInt8 → Option Int} (h : Sc W m σ) (b : Stays M W W') (hm : ¬ M m) : Sc W' m σ := by
  obtain ⟨n, D, h1, h2⟩ := h
  refine ⟨n, D, ?_, h2⟩
  obtain ⟨es, clock, hb, rest⟩ := h1
  exact ⟨es, clock, (b.block m (Array.getElem?_eq_some_iff.1 hb).1 hm).trans hb, rest⟩
theorem Sc.below {W W' : World} {m : Nat} {σ : List UInt8 → Option Int} (h : Sc W m σ) (b : Below W.heap.size W W') : Sc W' m σ := h.stays (M := fun _ => False) (.of b) (fun h => h)
structure ExC (F : Nat → Prop) (w : World) (g : FuncId) (cap : Array Value) (x : Ex) : Prop where
  enters : ∀ args w, (callFunc g args).run Tryz.prog w = .ok (.enter g args) w
  lt : ∀ k, F k → k < w.heap.size
  fine : Fine x
  calls : ∀ W m σ, w.heap.size ≤ W.heap.size → (∀ k, F k → W.heap[k]? = w.heap[k]?) → Sc W m σ → Calls Tryz.prog g (#[.map (some m)] ++ cap) W (RetX W (x.eval σ))
theorem ExC.keep {F : Nat → Prop} {w w' : World} {g : FuncId} {cap : Array Value} {x : Ex} (h : ExC F w g cap x) (hs : w.heap.size ≤ w'.heap.size) (hF : ∀ k, F k → w'.heap[k]? = w.heap[k]?) : ExC F w' g cap x :=
  ⟨h.enters, fun k hk => Nat.lt_of_lt_of_le (h.lt k hk) hs, h.fine, fun W m σ hW hk hm => h.calls W m σ (Nat.le_trans hs hW) (fun k hk' => (hk k hk').trans (hF k hk')) hm⟩
theorem ExC.stays {M F : Nat → Prop} {w w' : World} {g : FuncId} {cap : Array Value} {x : Ex} (h : ExC F w g cap x) (b : Stays M w w') (hM : ∀ k, F k → ¬ M k) : ExC F w' g cap x :=
  h.keep b.size fun k hk => b.block k (h.lt k hk) (hM k hk)
theorem ExC.wider {F F' : Nat → Prop} {w : World} {g : FuncId} {cap : Array Value} {x : Ex} (h : ExC F w g cap x) (hF : ∀ k, F k → F' k) (hl : ∀ k, F' k → k < w.heap.size) : ExC F' w g cap x :=
  ⟨h.enters, hl, h.fine, fun W m σ hW hk hm => h.calls W m σ hW (fun k hk' => hk k (hF k hk')) hm⟩
structure OpF (g : FuncId) (op : UInt8) : Prop where
  enters : ∀ args w, (callFunc g args).run Tryz.prog w = .ok (.enter g args) w
  calls : ∀ a b W, Within a → Within b → Calls Tryz.prog g #[.int .u8 op.toNat, .int .i64 a, .int .i64 b] W (RetX W (applyOp op a b))
theorem ExC.below {F : Nat → Prop} {w w' : World} {g : FuncId} {cap : Array Value} {x : Ex} (h : ExC F w g cap x) (b : Below w.heap.size w w') : ExC F w' g cap x := h.stays (M := fun _ => False) (.of b) (fun _ _ h => h)
theorem ExC.call {F : Nat → Prop} {w : World} {g : FuncId} {cap : Array Value} {x : Ex} (h : ExC F w g cap x) {m : Nat} {σ : List UInt8 → Option Int} (hm : Sc w m σ) : Calls Tryz.prog g (#[.map (some m)] ++ cap) w (RetX w (x.eval σ)) := h.calls w m σ (Nat.le_refl _) (fun _ _ => rfl) hm
theorem cell_below {w w' : World} {a : Addr} {v : Value} (h : w.cell? a = some v) (b : Below w.heap.size w w') : w'.cell? a = some v := (b.cell (World.block_lt_of_cell? w a h)).trans h
theorem bin_calls_cells {W : World} {m X Y Z S : Nat} {σ : List UInt8 → Option Int} {g1 g2 g3 : FuncId} {c1 c2 : Array Value} {F1 F2 : Nat → Prop} {a b : Ex} {op : UInt8}
    (hm : Sc W m σ) (h1 : ExC F1 W g1 c1 a) (h2 : ExC F2 W g2 c2 b) (h3 : OpF g3 op)
    (bX : W.cell? ⟨X, 0, none⟩ = some (.func (.func g1) #[] c1)) (bY : W.cell? ⟨Y, 0, none⟩ = some (.func (.func g2) #[] c2)) (bZ : W.cell? ⟨Z, 0, none⟩ = some (.func (.func g3) #[] #[])) (bS : W.cell? ⟨S, 0, none⟩ = some (.int .u8 op.toNat)) :
    Calls Tryz.prog 139 #[.map (some m), .pointer (some ⟨X, 0, none⟩), .pointer (some ⟨Y, 0, none⟩), .pointer (some ⟨Z, 0, none⟩), .pointer (some ⟨S, 0, none⟩)] W (RetX W ((Ex.bin op a b).eval σ)) := by
  have x0 := bX
  have e1 := h1.enters
  cases ha : a.eval σ with
  | error k =>
    have hv : (Ex.bin op a b).eval σ = .error k := by simp only [Ex.eval, ha]
    rw [hv]
    go_enter Tryz.func139, Tryz.ntmps139
    go_wp2_with fail
    refine (retx_err ha (h1.call hm)).mono ?_
    rintro e w1 ⟨rfl, b1⟩
    exact ⟨rfl, b1, rfl⟩
  | ok n =>
    have hn := eval_within h1.fine ha
    cases hb : b.eval σ with
    | error k =>
      have hv : (Ex.bin op a b).eval σ = .error k := by simp only [Ex.eval, ha, hb]
      rw [hv]
      go_enter Tryz.func139, Tryz.ntmps139
      go_wp2_with fail
      refine (retx_ok ha (h1.call hm)).mono ?_
      rintro e w1 ⟨rfl, b1⟩
      clear x0 e1
      have y0 := cell_below bY b1
      have e2 := h2.enters
      go_wp2_with fail
      refine (retx_err hb ((h2.below b1).call (hm.below b1))).mono ?_
      rintro e w2 ⟨rfl, b2⟩
      exact ⟨rfl, b1.trans (b2.mono b1.size), rfl⟩
    | ok k =>
      have hk := eval_within h2.fine hb
      have hv : (Ex.bin op a b).eval σ = applyOp op n k := by simp only [Ex.eval, ha, hb]
      rw [hv]
      cases hr : applyOp op n k with
      | ok r =>
        go_enter Tryz.func139, Tryz.ntmps139
        go_wp2_with fail
        refine (retx_ok ha (h1.call hm)).mono ?_
        rintro e w1 ⟨rfl, b1⟩
        clear x0 e1
        have y0 := cell_below bY b1
        have e2 := h2.enters
        go_wp2_with fail
        refine (retx_ok hb ((h2.below b1).call (hm.below b1))).mono ?_
        rintro e w2 ⟨rfl, b2⟩
        clear y0 e2
        have z0 := cell_below (cell_below bZ b1) b2
        have s0 := cell_below (cell_below bS b1) b2
        have e3 := h3.enters
        go_wp2_with fail
        refine (retx_ok hr (h3.calls n k w2 hn hk)).mono ?_
        rintro e w3 ⟨rfl, b3⟩
        clear z0 s0 e3
        go_wp2_with fail
        go_ret
        exact ⟨(b1.trans (b2.mono b1.size)).trans (b3.mono (Nat.le_trans b1.size b2.size)), rfl⟩
      | error r =>
        go_enter Tryz.func139, Tryz.ntmps139
        go_wp2_with fail
        refine (retx_ok ha (h1.call hm)).mono ?_
        rintro e w1 ⟨rfl, b1⟩
        clear x0 e1
        have y0 := cell_below bY b1
        have e2 := h2.enters
        go_wp2_with fail
        refine (retx_ok hb ((h2.below b1).call (hm.below b1))).mono ?_
        rintro e w2 ⟨rfl, b2⟩
        clear y0 e2
        have z0 := cell_below (cell_below bZ b1) b2
        have s0 := cell_below (cell_below bS b1) b2
        have e3 := h3.enters
        go_wp2_with fail
        refine (retx_err hr (h3.calls n k w2 hn hk)).mono ?_
        rintro e w3 ⟨rfl, b3⟩
        exact ⟨rfl, (b1.trans (b2.mono b1.size)).trans (b3.mono (Nat.le_trans b1.size b2.size)), rfl⟩
theorem enters139 (args : Array Value) (w : World) : (callFunc 139 args).run Tryz.prog w = .ok (.enter 139 args) w := enters_of Tryz.func139 (by kernel_rfl) rfl args w
theorem enters163 (args : Array Value) (w : World) : (callFunc 163 args).run Tryz.prog w = .ok (.enter 163 args) w := enters_of Tryz.func163 (by kernel_rfl) rfl args w
theorem enters181 (args : Array Value) (w : World) : (callFunc 181 args).run Tryz.prog w = .ok (.enter 181 args) w := enters_of Tryz.func181 (by kernel_rfl) rfl args w
theorem enters182 (args : Array Value) (w : World) : (callFunc 182 args).run Tryz.prog w = .ok (.enter 182 args) w := enters_of Tryz.func182 (by kernel_rfl) rfl args w
theorem num_ex {w : World} {X n : Nat} (bX : Blk w X #[.int .i64 n] 3) (hn : n ≤ 9007199254740992) : ExC (fun k => k = X) w 181 #[.pointer (some ⟨X, 0, none⟩)] (.num n) := by
  refine ⟨enters181, ?_, .num hn, ?_⟩
  · rintro k rfl; exact bX.lt
  · intro W m σ hW hk hm
    have kX : Blk W X #[.int .i64 n] 3 := (hk X rfl).trans bX
    have x0 := (kX.cell 0).trans rfl
    show Calls Tryz.prog 181 #[.map (some m), .pointer (some ⟨X, 0, none⟩)] W (RetX W (.ok n))
    go_enter Tryz.func181, Tryz.ntmps181
    go_wp2_with fail
    go_ret
    exact ⟨Below.refl _ _, rfl⟩
theorem zero3 (w : World) : (zeroValue 3).run Tryz.prog w = .ok (.int .i64 0) w := by kernel_rfl
theorem law9 : Keyed Tryz.prog 9 := string_keyed Tryz.underlying9
theorem name_ex {w : World} {X : Nat} {s : ByteArray} (bX : Blk w X #[.string s] 9) (hs : s.size ≤ 65536) : ExC (fun k => k = X) w 182 #[.pointer (some ⟨X, 0, none⟩)] (.name (txt s)) := by
  refine ⟨enters182, ?_, .name _, ?_⟩
  · rintro k rfl; exact bX.lt
  · intro W m σ hW hk hm
    have kX : Blk W X #[.string s] 9 := (hk X rfl).trans bX
    have x0 := (kX.cell 0).trans rfl
    obtain ⟨n, D, hown, hsc⟩ := hm
    have hkey : keyOf Tryz.prog 9 (.string s) = some (.string (txt s)) := keyOf_string_mk Tryz.underlying9 (by unfold maxLen; omega)
    obtain ⟨q1, q2⟩ := hsc (txt s)
    show Calls Tryz.prog 182 #[.map (some m), .pointer (some ⟨X, 0, none⟩)] W _
    simp only [Ex.eval]
    have HQ := Lib.hid q2
    clear q2
    cases hv : σ (txt s) with
    | none =>
      rw [hv] at q1
      simp only [Option.isSome_none] at q1
      go_enter Tryz.func182, Tryz.ntmps182
      go_wp2_with (first | (at_lookup; refine wpList_lookup_own_ok_int _ rfl _ _ 119 rfl 9 3 .i64 law9 Tryz.underlying119 Tryz.underlying3 (zero3 _) m n D rfl hown _ _ rfl hkey ?_; intro c hat hwc) | (go_at_call 105; refine (fail_any 100 _).mono ?_; rintro e w' ⟨rfl, rfl⟩))
      exact ⟨rfl, Below.refl _ _, rfl⟩
    | some v =>
      rw [hv] at q1
      simp only [Option.isSome_some] at q1
      have hat0 := HQ.out v hv
      have HA := Lib.hid hat0
      clear hat0
      cases hsm : small v with
      | ok r =>
        go_enter Tryz.func182, Tryz.ntmps182
        go_wp2_with (first | (at_lookup; refine wpList_lookup_own_ok_int _ rfl _ _ 119 rfl 9 3 .i64 law9 Tryz.underlying119 Tryz.underlying3 (zero3 _) m n D rfl hown _ _ rfl hkey ?_; intro c hat hwc; obtain rfl : v = c := by (have := HA.out.symm.trans hat; simpa using this)) | (go_at_call 164; refine (retx_ok hsm (small_any _ _)).mono ?_; rintro e w' ⟨rfl, bb⟩))
        go_ret
        refine ⟨bb, ?_⟩
        simp only [hsm]
        rfl
      | error r =>
        go_enter Tryz.func182, Tryz.ntmps182
        go_wp2_with (first | (at_lookup; refine wpList_lookup_own_ok_int _ rfl _ _ 119 rfl 9 3 .i64 law9 Tryz.underlying119 Tryz.underlying3 (zero3 _) m n D rfl hown _ _ rfl hkey ?_; intro c hat hwc; obtain rfl : v = c := by (have := HA.out.symm.trans hat; simpa using this)) | (go_at_call 164; refine (retx_err hsm (small_any _ _)).mono ?_; rintro e w' ⟨rfl, bb⟩))
        refine ⟨rfl, bb, ?_⟩
        simp only [hsm]
theorem neg_ex {F : Nat → Prop} {w : World} {X Y k : Nat} {g : FuncId} {c : Array Value} {a : Ex} (h : ExC F w g c a) (bX : Blk w X #[.func (.func g) #[] c] 133) (bY : Blk w Y #[.int .i64 k] 3) (hk : k ≤ 65536) :
    ExC (fun j => F j ∨ j = X ∨ j = Y) w 163 #[.pointer (some ⟨X, 0, none⟩), .pointer (some ⟨Y, 0, none⟩)] (.neg k a) := by
  refine ⟨enters163, ?_, .neg _ h.fine, ?_⟩
  · rintro k (h1 | rfl | rfl)
    · exact h.lt k h1
    · exact bX.lt
    · exact bY.lt
  · intro W m σ hW hkk hm
    have k1 := h.keep (w' := W) hW (fun k h => hkk k (.inl h))
    have kX : Blk W X #[.func (.func g) #[] c] 133 := (hkk X (by simp)).trans bX
    have kY : Blk W Y #[.int .i64 k] 3 := (hkk Y (by simp)).trans bY
    have x0 := (kX.cell 0).trans rfl
    have e1 := k1.enters
    show Calls Tryz.prog 163 #[.map (some m), .pointer (some ⟨X, 0, none⟩), .pointer (some ⟨Y, 0, none⟩)] W _
    simp only [Ex.eval]
    cases ha : a.eval σ with
    | error r =>
      simp only
      go_enter Tryz.func163, Tryz.ntmps163
      go_wp2_with fail
      refine (retx_err ha (k1.call hm)).mono ?_
      rintro e w1 ⟨rfl, b1⟩
      exact ⟨rfl, b1, rfl⟩
    | ok v =>
      simp only
      have hn := eval_within k1.fine ha
      unfold Within maxValue at hn
      by_cases hodd : k % 2 = 1
      · rw [if_pos hodd]
        have hdd : ((k : Int).tmod 2 == 1) = true := by
          have : (k : Int).tmod 2 = 1 := by rw [Int.tmod_eq_emod_of_nonneg (by omega)]; omega
          rw [this]; rfl
        cases hr : small (-v) with
        | ok r =>
          go_enter Tryz.func163, Tryz.ntmps163
          go_wp2_with fail
          refine (retx_ok ha (k1.call hm)).mono ?_
          rintro e w1 ⟨rfl, b1⟩
          clear x0 e1
          have y0 := ((kY.below b1).cell 0).trans rfl
          go_wp2_with fail
          refine (retx_ok hr (small_any _ _)).mono ?_
          rintro e w2 ⟨rfl, b2⟩
          go_wp2_with fail
          go_ret
          exact ⟨b1.trans (b2.mono b1.size), rfl⟩
        | error r =>
          go_enter Tryz.func163, Tryz.ntmps163
          go_wp2_with fail
          refine (retx_ok ha (k1.call hm)).mono ?_
          rintro e w1 ⟨rfl, b1⟩
          clear x0 e1
          have y0 := ((kY.below b1).cell 0).trans rfl
          go_wp2_with fail
          refine (retx_err hr (small_any _ _)).mono ?_
          rintro e w2 ⟨rfl, b2⟩
          exact ⟨rfl, b1.trans (b2.mono b1.size), rfl⟩
      · rw [if_neg hodd]
        have hdd : ((k : Int).tmod 2 == 1) = false := by
          have : (k : Int).tmod 2 = 0 := by rw [Int.tmod_eq_emod_of_nonneg (by omega)]; omega
          rw [this]; rfl
        have hr : small v = .ok v := small_within (by unfold Within maxValue; omega)
        rw [hr]
        go_enter Tryz.func163, Tryz.ntmps163
        go_wp2_with fail
        refine (retx_ok ha (k1.call hm)).mono ?_
        rintro e w1 ⟨rfl, b1⟩
        clear x0 e1
        have y0 := ((kY.below b1).cell 0).trans rfl
        go_wp2_with fail
        refine (retx_ok hr (small_any _ _)).mono ?_
        rintro e w2 ⟨rfl, b2⟩
        go_wp2_with fail
        go_ret
        exact ⟨b1.trans (b2.mono b1.size), rfl⟩
end Go.Proofs.YtddnmocoaahlfaaGreatDoor
namespace Go.Proofs.YtddnmocoaahlfaaGreatDoor
open Go.RowKit
def ErrR (w : World) : Prop := ∃ ev, w.cell? ⟨6, 0, none⟩ = some ev ∧ (ev = .nilIface ∨ ∃ te pe, ev = .iface te pe)
theorem ErrR.stays {M : Nat → Prop} {w w' : World} (h : ErrR w) (b : Stays M w w') (hm : ¬ M 6) : ErrR w' := by
  obtain ⟨ev, h1, h2⟩ := h
  exact ⟨ev, (World.cell?_of_block (a := ⟨6, 0, none⟩) (b.block 6 (World.block_lt_of_cell? w _ h1) hm)).trans h1, h2⟩
theorem ErrR.below {w w' : World} (h : ErrR w) (b : Below w.heap.size w w') : ErrR w' := h.stays (M := fun _ => False) (.of b) (fun h => h)
theorem ErrR.ne {w : World} {R : Nat} {s : ByteArray} {at_ op : Nat} (h : ErrR w) (hp : Par w R s at_ op) : R ≠ 6 := by
  rintro rfl
  obtain ⟨ev, h1, h2⟩ := h
  rw [hp.facts.1] at h1
  injection h1 with h1
  subst h1
  rcases h2 with h2 | ⟨_, _, h2⟩ <;> cases h2
theorem numFrom_le : ∀ (l : List UInt8) (n : Nat), n ≤ l.foldl (fun n c => 10 * n + (c.toNat - 48)) n
  | [], n => Nat.le_refl _
  | c :: l, n => by
    rw [List.foldl_cons]
    exact Nat.le_trans (by omega) (numFrom_le l _)
theorem parse_digits : ∀ (l : List UInt8) (n : Nat), n < 18446744073709551616 → (∀ c ∈ l, isDig c = true) → Go.Lib.parseUint10 n l = if l.foldl (fun n c => 10 * n + (c.toNat - 48)) n < 18446744073709551616 then .ok (l.foldl (fun n c => 10 * n + (c.toNat - 48)) n) else .range
  | [], n, hn, _ => by rw [Go.Lib.parseUint10, List.foldl_nil, if_pos hn]
  | c :: l, n, hn, h => by
    have hc : isDig c = true := h c (by simp)
    have hc' : 48 ≤ c.toNat ∧ c.toNat ≤ 57 := by
      unfold isDig at hc
      simp only [Bool.and_eq_true, decide_eq_true_eq, UInt8.le_iff_toNat_le] at hc
      exact hc
    rw [Go.Lib.parseUint10, if_pos hc', List.foldl_cons]
    have hle := numFrom_le l (10 * n + (c.toNat - 48))
    by_cases h1 : 1844674407370955162 ≤ n
    · rw [if_pos h1, if_neg (by omega)]
    · rw [if_neg h1]
      by_cases h2 : 18446744073709551616 ≤ n * 10 + (c.toNat - 48)
      · rw [if_pos h2, if_neg (by omega)]
      · rw [if_neg h2, show n * 10 + (c.toNat - 48) = 10 * n + (c.toNat - 48) by omega]
        exact parse_digits l _ (by omega) (fun d hd => h d (by simp [hd]))
theorem atoi_digits {l : List UInt8} (hne : l ≠ []) (h : ∀ c ∈ l, isDig c = true) : Go.Lib.atoiAll l = if numOf l < 9223372036854775808 then .ok (numOf l : Int) else .range := by
  obtain ⟨c, r, rfl⟩ := List.exists_cons_of_ne_nil hne
  have hc : isDig c = true := h c (by simp)
  have hc' : 48 ≤ c.toNat ∧ c.toNat ≤ 57 := by
    unfold isDig at hc
    simp only [Bool.and_eq_true, decide_eq_true_eq, UInt8.le_iff_toNat_le] at hc
    exact hc
  rw [Go.Lib.atoiAll_plain c r (by omega) (by omega)]
  unfold Go.Lib.parseMag
  rw [if_neg (by simp), parse_digits _ 0 (by omega) h]
  have e : (c :: r).foldl (fun n c => 10 * n + (c.toNat - 48)) 0 = numOf (c :: r) := rfl
  rw [e]
  by_cases h1 : numOf (c :: r) < 9223372036854775808
  · rw [if_pos (by omega), if_pos h1]
    simp only [Go.Lib.signless]
    rw [if_neg (by omega)]
  · rw [if_neg h1]
    by_cases h2 : numOf (c :: r) < 18446744073709551616
    · rw [if_pos h2]
      simp only [Go.Lib.signless]
      rw [if_pos (by omega)]
    · rw [if_neg h2]; rfl
theorem atoi_ok {t : ByteArray} (hs : t.size ≤ 65536) {n : Nat} (hne : txt t ≠ []) (hd : ∀ c ∈ txt t, isDig c = true) (hn : numOf (txt t) = n) (hlt : n < 9223372036854775808) (w : World) :
    Calls Tryz.prog 122 #[.string t] w (RetV w (.tuple #[.int .i64 n, .nilIface])) := by
  refine (Tryz.strconv_Atoi_ok t (by omega) n (by rw [atoi_digits hne hd, hn, if_pos hlt]) w).mono ?_
  rintro e w' ⟨rfl, rfl | ⟨t', rfl⟩⟩
  · exact ⟨rfl, Below.refl _ _⟩
  · exact ⟨rfl, Go.Joins.below_bytesWorld _ _ _ _ (Nat.le_refl _)⟩
theorem atoi_over {t : ByteArray} (hs : t.size ≤ 65536) (hne : txt t ≠ []) (hd : ∀ c ∈ txt t, isDig c = true) (hlt : ¬ numOf (txt t) < 9223372036854775808) {w : World} (he : ErrR w) :
    Calls Tryz.prog 122 #[.string t] w (fun e w' => ∃ (v : Int) (N : Nat), e = .returned (.tuple #[.int .i64 v, .iface 229 (.pointer (some ⟨N, 0, none⟩))]) ∧ Below w.heap.size w w') := by
  obtain ⟨ev, h1, h2⟩ := he
  refine (Tryz.strconv_Atoi_range t (by omega) (by rw [atoi_digits hne hd, if_neg hlt]) ev w h1 h2).mono ?_
  rintro e w' ⟨N, rfl, _, _, hb⟩
  exact ⟨_, N, rfl, hb⟩
theorem mul_any (a b : Int) (w : World) (ha : Within a) (hb : Within b) : Calls Tryz.prog 144 #[.int .u8 42, .int .i64 a, .int .i64 b] w (RetX w (small (a * b))) := by
  have hab : (a * b).natAbs = a.natAbs * b.natAbs := Int.natAbs_mul a b
  have h1 : a.natAbs < 18446744073709551616 := by unfold Within maxValue at ha; omega
  have h2 : b.natAbs < 18446744073709551616 := by unfold Within maxValue at hb; omega
  obtain ⟨p, hp⟩ : ∃ p, p = a.natAbs * b.natAbs := ⟨_, rfl⟩
  have HM := Lib.hid (fun w => Tryz.bits_Mul64 a.natAbs b.natAbs h1 h2 w)
  rw [← hp] at HM hab
  have HA := Lib.hid (fun w => size_any a w ha)
  have HB := Lib.hid (fun w => size_any b w hb)
  by_cases hbig : 9007199254740992 < p
  · have hs : small (a * b) = .error 101 := by
      unfold small maxValue
      rw [if_pos (by omega)]
    rw [hs]
    clear hab hp
    by_cases hhi : p < 18446744073709551616
    · have e1 : p / 18446744073709551616 = 0 := Nat.div_eq_of_lt hhi
      have e2 : p % 18446744073709551616 = p := Nat.mod_eq_of_lt hhi
      rw [e1, e2] at HM
      have hgt : (9007199254740992 : Int) < (p : Int) := by omega
      go_enter Tryz.func144, Tryz.ntmps144
      go_wp2_with (first | (go_at_call 166; (with_reducible refine (HA.out _).mono ?_); rintro e w' ⟨rfl, rfl⟩) | (go_at_call 166; (with_reducible refine (HB.out _).mono ?_); rintro e w' ⟨rfl, rfl⟩) | (go_at_call 165; (with_reducible refine (HM.out _).mono ?_); rintro e w' ⟨rfl, rfl⟩) | (go_at_call 105; refine (fail_any 101 _).mono ?_; rintro e w' ⟨rfl, rfl⟩))
      exact ⟨rfl, Below.refl _ _, rfl⟩
    · have hgt : (0 : Int) < ((p / 18446744073709551616 : Nat) : Int) := by
        have : 0 < p / 18446744073709551616 := Nat.div_pos (by omega) (by omega)
        omega
      obtain ⟨q, hq⟩ : ∃ q, q = p / 18446744073709551616 := ⟨_, rfl⟩
      obtain ⟨q2, hq2⟩ : ∃ q, q = p % 18446744073709551616 := ⟨_, rfl⟩
      rw [← hq, ← hq2] at HM
      rw [← hq] at hgt
      clear hq hq2 hhi hbig
      go_enter Tryz.func144, Tryz.ntmps144
      go_wp2_with (first | (go_at_call 166; (with_reducible refine (HA.out _).mono ?_); rintro e w' ⟨rfl, rfl⟩) | (go_at_call 166; (with_reducible refine (HB.out _).mono ?_); rintro e w' ⟨rfl, rfl⟩) | (go_at_call 165; (with_reducible refine (HM.out _).mono ?_); rintro e w' ⟨rfl, rfl⟩) | (go_at_call 105; refine (fail_any 101 _).mono ?_; rintro e w' ⟨rfl, rfl⟩))
      exact ⟨rfl, Below.refl _ _, rfl⟩
  · have hs : small (a * b) = .ok (a * b) := small_within (by unfold Within maxValue; omega)
    rw [hs]
    have e1 : p / 18446744073709551616 = 0 := Nat.div_eq_of_lt (by omega)
    have e2 : p % 18446744073709551616 = p := Nat.mod_eq_of_lt (by omega)
    rw [e1, e2] at HM
    have hgt : ¬ (9007199254740992 : Int) < (p : Int) := by omega
    have hw1 : -9223372036854775808 ≤ a * b := by omega
    have hw2 : a * b ≤ 9223372036854775807 := by omega
    clear hab hp hbig
    go_enter Tryz.func144, Tryz.ntmps144
    go_wp2_with (first | (go_at_call 166; (with_reducible refine (HA.out _).mono ?_); rintro e w' ⟨rfl, rfl⟩) | (go_at_call 166; (with_reducible refine (HB.out _).mono ?_); rintro e w' ⟨rfl, rfl⟩) | (go_at_call 165; (with_reducible refine (HM.out _).mono ?_); rintro e w' ⟨rfl, rfl⟩))
    go_ret
    exact ⟨Below.refl _ _, rfl⟩
theorem product_any (op : UInt8) (a b : Int) (w : World) (ho : op = 42 ∨ op = 47 ∨ op = 37) (ha : Within a) (hb : Within b) : Calls Tryz.prog 144 #[.int .u8 op.toNat, .int .i64 a, .int .i64 b] w (RetX w (applyOp op a b)) := by
  rcases ho with rfl | rfl | rfl
  · exact mul_any a b w ha hb
  · have e : applyOp 47 a b = if b = 0 then .error 101 else .ok (a.tdiv b) := rfl
    rw [e]
    unfold Within maxValue at ha hb
    by_cases h0 : b = 0
    · rw [if_pos h0]
      subst h0
      go_enter Tryz.func144, Tryz.ntmps144
      go_wp2_with (go_at_call 105; refine (fail_any 101 _).mono ?_; rintro e w' ⟨rfl, rfl⟩)
      exact ⟨rfl, Below.refl _ _, rfl⟩
    · rw [if_neg h0]
      go_enter Tryz.func144, Tryz.ntmps144
      go_wp2_with fail
      go_ret
      refine ⟨Below.refl _ _, ?_⟩
      have hq := tdiv_within (b := b) (show Within a from ha)
      unfold Within maxValue at hq
      have hwr : wrap64 (a.tdiv b) = a.tdiv b := by unfold wrap64; omega
      rw [hwr]
      rfl
  · have e : applyOp 37 a b = if b = 0 then .error 101 else .ok (a.tmod b) := rfl
    rw [e]
    unfold Within maxValue at ha hb
    by_cases h0 : b = 0
    · rw [if_pos h0]
      subst h0
      go_enter Tryz.func144, Tryz.ntmps144
      go_wp2_with (go_at_call 105; refine (fail_any 101 _).mono ?_; rintro e w' ⟨rfl, rfl⟩)
      exact ⟨rfl, Below.refl _ _, rfl⟩
    · rw [if_neg h0]
      go_enter Tryz.func144, Tryz.ntmps144
      go_wp2_with fail
      go_ret
      exact ⟨Below.refl _ _, rfl⟩
def levCells : Array Value := #[.string ⟨#[124]⟩, .func (.func 140) #[] #[], .bool true, .string ⟨#[38]⟩, .func (.func 141) #[] #[], .bool true, .string ⟨#[61, 60, 62]⟩, .func (.func 142) #[] #[], .bool false, .string ⟨#[43, 45]⟩, .func (.func 143) #[] #[], .bool true, .string ⟨#[42, 47, 37]⟩, .func (.func 144) #[] #[], .bool true]
theorem levels_any (w : World) : Calls Tryz.prog 112 #[] w (fun e w' => e = .returned (.slice (some ⟨w.heap.size, 0, none⟩) 5 5) ∧ w' = w.alloc (.cells levCells 206)) := by
  go_enter Tryz.func112, Tryz.ntmps112
  go_wp2_with fail
  go_ret
  exact ⟨rfl, rfl⟩
def Lev (w : World) (L : Nat) : Prop := Blk w L levCells 206
theorem enters140 (args : Array Value) (w : World) : (callFunc 140 args).run Tryz.prog w = .ok (.enter 140 args) w := enters_of Tryz.func140 (by kernel_rfl) rfl args w
theorem enters141 (args : Array Value) (w : World) : (callFunc 141 args).run Tryz.prog w = .ok (.enter 141 args) w := enters_of Tryz.func141 (by kernel_rfl) rfl args w
theorem enters142 (args : Array Value) (w : World) : (callFunc 142 args).run Tryz.prog w = .ok (.enter 142 args) w := enters_of Tryz.func142 (by kernel_rfl) rfl args w
theorem enters143 (args : Array Value) (w : World) : (callFunc 143 args).run Tryz.prog w = .ok (.enter 143 args) w := enters_of Tryz.func143 (by kernel_rfl) rfl args w
theorem enters144 (args : Array Value) (w : World) : (callFunc 144 args).run Tryz.prog w = .ok (.enter 144 args) w := enters_of Tryz.func144 (by kernel_rfl) rfl args w
structure LevAt (i : Nat) (ops : ByteArray) (g : FuncId) (sv : Bool) : Prop where
  c0 : levCells[3 * i]? = some (.string ops)
  c1 : levCells[3 * i + 1]? = some (.func (.func g) #[] #[])
  c2 : levCells[3 * i + 2]? = some (.bool sv)
  gr : grammar.drop i = (txt ops, sv) :: grammar.drop (i + 1)
  op : ∀ c, hasB ops c = true → c ≠ 0 ∧ OpF g c
  small : ops.size ≤ 65536
theorem levAt : ∀ i, i < 5 → ∃ ops g sv, LevAt i ops g sv
  | 0, _ => ⟨⟨#[124]⟩, 140, true, rfl, rfl, rfl, rfl, fun c h => by
      have : c = 124 := by simpa [hasB] using h
      subst this
      exact ⟨by decide, enters140, fun a b W _ _ => or_any 124 a b W rfl⟩, by decide⟩
  | 1, _ => ⟨⟨#[38]⟩, 141, true, rfl, rfl, rfl, rfl, fun c h => by
      have : c = 38 := by simpa [hasB] using h
      subst this
      exact ⟨by decide, enters141, fun a b W _ _ => and_any 38 a b W rfl⟩, by decide⟩
  | 2, _ => ⟨⟨#[61, 60, 62]⟩, 142, false, rfl, rfl, rfl, rfl, fun c h => by
      have : c = 61 ∨ c = 60 ∨ c = 62 := by simpa [hasB] using h
      exact ⟨by rcases this with rfl | rfl | rfl <;> decide, enters142, fun a b W _ _ => compare_any c a b W this⟩, by decide⟩
  | 3, _ => ⟨⟨#[43, 45]⟩, 143, true, rfl, rfl, rfl, rfl, fun c h => by
      have : c = 43 ∨ c = 45 := by simpa [hasB] using h
      exact ⟨by rcases this with rfl | rfl <;> decide, enters143, fun a b W ha hb => sum_any c a b W this ha hb⟩, by decide⟩
  | 4, _ => ⟨⟨#[42, 47, 37]⟩, 144, true, rfl, rfl, rfl, rfl, fun c h => by
      have : c = 42 ∨ c = 47 ∨ c = 37 := by simpa [hasB] using h
      exact ⟨by rcases this with rfl | rfl | rfl <;> decide, enters144, fun a b W ha hb => product_any c a b W this ha hb⟩, by decide⟩
  | i + 5, h => by omega
end Go.Proofs.YtddnmocoaahlfaaGreatDoor
