/-
  What an expression's value in the program is: a function value whose call gives the expression's value. No condition.
-/
import Derived.Test.YtddnmocoaahlfaaGreatDoorBase
import Derived.Maps.Own
import Derived.Maps.OwnOps
import Derived.Maps.OwnSet
import Derived.StringKeys
import Derived.Shelf.Abstract
set_option linter.unusedVariables false
set_option linter.unusedSimpArgs false

namespace Go.Proofs.YtddnmocoaahlfaaGreatDoor
open Go.RowKit Go.Maps Go.WideMaps
/-- The datum of a map gives the values of names. -/
def Scope (D : DataW Unit) (σ : List UInt8 → Option Int) : Prop := ∀ s : List UInt8, Maps.has D (.string s) = (σ s).isSome ∧ ∀ v, σ s = some v → D.atKey (.string s) (.lit (.int .i64 0)) = .lit (.int .i64 v)
/-- The map m holds the values of names. -/
def Sc (W : World) (m : Nat) (σ : List UInt8 → Option Int) : Prop := ∃ n D, W.ownsMap Tryz.prog 9 (plainElem Tryz.prog 3) m n D ∧ Scope D σ
theorem Sc.stays {M : Nat → Prop} {W W' : World} {m : Nat} {σ : List UInt8 → Option Int} (h : Sc W m σ) (b : Stays M W W') (hm : ¬ M m) : Sc W' m σ := by
  obtain ⟨n, D, h1, h2⟩ := h
  refine ⟨n, D, ?_, h2⟩
  obtain ⟨es, clock, hb, rest⟩ := h1
  exact ⟨es, clock, (b.block m (Array.getElem?_eq_some_iff.1 hb).1 hm).trans hb, rest⟩
theorem Sc.below {W W' : World} {m : Nat} {σ : List UInt8 → Option Int} (h : Sc W m σ) (b : Below W.heap.size W W') : Sc W' m σ := h.stays (M := fun _ => False) (.of b) (fun h => h)
structure ExC (F : Nat → Prop) (w : World) (g : FuncId) (cap : Array Value) (x : Ex) : Prop where
  enters : ∀ args w, (callFunc g args).run Tryz.prog w = .ok (.enter g args) w
  lt : ∀ k, F k → k < w.heap.size
  fine : Fine x
  calls : ∀ W m σ, w.heap.size ≤ W.heap.size → (∀ k, F k → W.heap[k]? = w.heap[k]?) → Sc W m σ → Calls Tryz.prog g (#[.map (some m)] ++ cap) W (RetX W (x.eval σ))
theorem ExC.keep {F : Nat → Prop} {w w' : World} {g : FuncId} {cap : Array Value} {x : Ex} (h : ExC F w g cap x) (hs : w.heap.size ≤ w'.heap.size) (hF : ∀ k, F k → w'.heap[k]? = w.heap[k]?) : ExC F w' g cap x :=
  ⟨h.enters, fun k hk => Nat.lt_of_lt_of_le (h.lt k hk) hs, h.fine, fun W m σ hW hk hm => h.calls W m σ (Nat.le_trans hs hW) (fun k hk' => (hk k hk').trans (hF k hk')) hm⟩
theorem ExC.stays {M F : Nat → Prop} {w w' : World} {g : FuncId} {cap : Array Value} {x : Ex} (h : ExC F w g cap x) (b : Stays M w w') (hM : ∀ k, F k → ¬ M k) : ExC F w' g cap x :=
  h.keep b.size fun k hk => b.block k (h.lt k hk) (hM k hk)
theorem ExC.wider {F F' : Nat → Prop} {w : World} {g : FuncId} {cap : Array Value} {x : Ex} (h : ExC F w g cap x) (hF : ∀ k, F k → F' k) (hl : ∀ k, F' k → k < w.heap.size) : ExC F' w g cap x :=
  ⟨h.enters, hl, h.fine, fun W m σ hW hk hm => h.calls W m σ hW (fun k hk' => hk k (hF k hk')) hm⟩
/-- What an operator's function gives. -/
structure OpF (g : FuncId) (op : UInt8) : Prop where
  enters : ∀ args w, (callFunc g args).run Tryz.prog w = .ok (.enter g args) w
  calls : ∀ a b W, Within a → Within b → Calls Tryz.prog g #[.int .u8 op.toNat, .int .i64 a, .int .i64 b] W (RetX W (applyOp op a b))
theorem ExC.below {F : Nat → Prop} {w w' : World} {g : FuncId} {cap : Array Value} {x : Ex} (h : ExC F w g cap x) (b : Below w.heap.size w w') : ExC F w' g cap x := h.stays (M := fun _ => False) (.of b) (fun _ _ h => h)
theorem ExC.call {F : Nat → Prop} {w : World} {g : FuncId} {cap : Array Value} {x : Ex} (h : ExC F w g cap x) {m : Nat} {σ : List UInt8 → Option Int} (hm : Sc w m σ) : Calls Tryz.prog g (#[.map (some m)] ++ cap) w (RetX w (x.eval σ)) := h.calls w m σ (Nat.le_refl _) (fun _ _ => rfl) hm
theorem cell_below {w w' : World} {a : Addr} {v : Value} (h : w.cell? a = some v) (b : Below w.heap.size w w') : w'.cell? a = some v := (b.cell (World.block_lt_of_cell? w a h)).trans h
set_option maxHeartbeats 1000000 in
theorem bin_calls_cells {W : World} {m X Y Z S : Nat} {σ : List UInt8 → Option Int} {g1 g2 g3 : FuncId} {c1 c2 : Array Value} {F1 F2 : Nat → Prop} {a b : Ex} {op : UInt8}
    (hm : Sc W m σ) (h1 : ExC F1 W g1 c1 a) (h2 : ExC F2 W g2 c2 b) (h3 : OpF g3 op)
    (bX : W.cell? ⟨X, 0, none⟩ = some (.func (.func g1) #[] c1)) (bY : W.cell? ⟨Y, 0, none⟩ = some (.func (.func g2) #[] c2)) (bZ : W.cell? ⟨Z, 0, none⟩ = some (.func (.func g3) #[] #[])) (bS : W.cell? ⟨S, 0, none⟩ = some (.int .u8 op.toNat)) :
    Calls Tryz.prog 139 #[.map (some m), .pointer (some ⟨X, 0, none⟩), .pointer (some ⟨Y, 0, none⟩), .pointer (some ⟨Z, 0, none⟩), .pointer (some ⟨S, 0, none⟩)] W (RetX W ((Ex.bin op a b).eval σ)) := by
  have x0 := bX
  have e1 := h1.enters
  cases ha : a.eval σ with
  | error k =>
    have hv : (Ex.bin op a b).eval σ = .error k := by simp only [Ex.eval, ha]
    rw [hv]
    go_enter Tryz.func139, Tryz.ntmps139
    go_wp2_with fail
    refine (retx_err ha (h1.call hm)).mono ?_
    rintro e w1 ⟨rfl, b1⟩
    exact ⟨rfl, b1, rfl⟩
  | ok n =>
    have hn := eval_within h1.fine ha
    cases hb : b.eval σ with
    | error k =>
      have hv : (Ex.bin op a b).eval σ = .error k := by simp only [Ex.eval, ha, hb]
      rw [hv]
      go_enter Tryz.func139, Tryz.ntmps139
      go_wp2_with fail
      refine (retx_ok ha (h1.call hm)).mono ?_
      rintro e w1 ⟨rfl, b1⟩
      clear x0 e1
      have y0 := cell_below bY b1
      have e2 := h2.enters
      go_wp2_with fail
      refine (retx_err hb ((h2.below b1).call (hm.below b1))).mono ?_
      rintro e w2 ⟨rfl, b2⟩
      exact ⟨rfl, b1.trans (b2.mono b1.size), rfl⟩
    | ok k =>
      have hk := eval_within h2.fine hb
      have hv : (Ex.bin op a b).eval σ = applyOp op n k := by simp only [Ex.eval, ha, hb]
      rw [hv]
      cases hr : applyOp op n k with
      | ok r =>
        go_enter Tryz.func139, Tryz.ntmps139
        go_wp2_with fail
        refine (retx_ok ha (h1.call hm)).mono ?_
        rintro e w1 ⟨rfl, b1⟩
        clear x0 e1
        have y0 := cell_below bY b1
        have e2 := h2.enters
        go_wp2_with fail
        refine (retx_ok hb ((h2.below b1).call (hm.below b1))).mono ?_
        rintro e w2 ⟨rfl, b2⟩
        clear y0 e2
        have z0 := cell_below (cell_below bZ b1) b2
        have s0 := cell_below (cell_below bS b1) b2
        have e3 := h3.enters
        go_wp2_with fail
        refine (retx_ok hr (h3.calls n k w2 hn hk)).mono ?_
        rintro e w3 ⟨rfl, b3⟩
        clear z0 s0 e3
        go_wp2_with fail
        go_ret
        exact ⟨(b1.trans (b2.mono b1.size)).trans (b3.mono (Nat.le_trans b1.size b2.size)), rfl⟩
      | error r =>
        go_enter Tryz.func139, Tryz.ntmps139
        go_wp2_with fail
        refine (retx_ok ha (h1.call hm)).mono ?_
        rintro e w1 ⟨rfl, b1⟩
        clear x0 e1
        have y0 := cell_below bY b1
        have e2 := h2.enters
        go_wp2_with fail
        refine (retx_ok hb ((h2.below b1).call (hm.below b1))).mono ?_
        rintro e w2 ⟨rfl, b2⟩
        clear y0 e2
        have z0 := cell_below (cell_below bZ b1) b2
        have s0 := cell_below (cell_below bS b1) b2
        have e3 := h3.enters
        go_wp2_with fail
        refine (retx_err hr (h3.calls n k w2 hn hk)).mono ?_
        rintro e w3 ⟨rfl, b3⟩
        exact ⟨rfl, (b1.trans (b2.mono b1.size)).trans (b3.mono (Nat.le_trans b1.size b2.size)), rfl⟩
theorem enters139 (args : Array Value) (w : World) : (callFunc 139 args).run Tryz.prog w = .ok (.enter 139 args) w := enters_of Tryz.func139 (by kernel_rfl) rfl args w
theorem enters163 (args : Array Value) (w : World) : (callFunc 163 args).run Tryz.prog w = .ok (.enter 163 args) w := enters_of Tryz.func163 (by kernel_rfl) rfl args w
theorem enters181 (args : Array Value) (w : World) : (callFunc 181 args).run Tryz.prog w = .ok (.enter 181 args) w := enters_of Tryz.func181 (by kernel_rfl) rfl args w
theorem enters182 (args : Array Value) (w : World) : (callFunc 182 args).run Tryz.prog w = .ok (.enter 182 args) w := enters_of Tryz.func182 (by kernel_rfl) rfl args w
/-- The function value of a numeral. -/
theorem num_ex {w : World} {X n : Nat} (bX : Blk w X #[.int .i64 n] 3) (hn : n ≤ 9007199254740992) : ExC (fun k => k = X) w 181 #[.pointer (some ⟨X, 0, none⟩)] (.num n) := by
  refine ⟨enters181, ?_, .num hn, ?_⟩
  · rintro k rfl; exact bX.lt
  · intro W m σ hW hk hm
    have kX : Blk W X #[.int .i64 n] 3 := (hk X rfl).trans bX
    have x0 := (kX.cell 0).trans rfl
    show Calls Tryz.prog 181 #[.map (some m), .pointer (some ⟨X, 0, none⟩)] W (RetX W (.ok n))
    go_enter Tryz.func181, Tryz.ntmps181
    go_wp2_with fail
    go_ret
    exact ⟨Below.refl _ _, rfl⟩
theorem zero3 (w : World) : (zeroValue 3).run Tryz.prog w = .ok (.int .i64 0) w := by kernel_rfl
theorem law9 : Keyed Tryz.prog 9 := string_keyed Tryz.underlying9
set_option maxHeartbeats 1000000 in
/-- The function value of a name. -/
theorem name_ex {w : World} {X : Nat} {s : ByteArray} (bX : Blk w X #[.string s] 9) (hs : s.size ≤ 65536) : ExC (fun k => k = X) w 182 #[.pointer (some ⟨X, 0, none⟩)] (.name (txt s)) := by
  refine ⟨enters182, ?_, .name _, ?_⟩
  · rintro k rfl; exact bX.lt
  · intro W m σ hW hk hm
    have kX : Blk W X #[.string s] 9 := (hk X rfl).trans bX
    have x0 := (kX.cell 0).trans rfl
    obtain ⟨n, D, hown, hsc⟩ := hm
    have hkey : keyOf Tryz.prog 9 (.string s) = some (.string (txt s)) := keyOf_string_mk Tryz.underlying9 (by unfold maxLen; omega)
    obtain ⟨q1, q2⟩ := hsc (txt s)
    show Calls Tryz.prog 182 #[.map (some m), .pointer (some ⟨X, 0, none⟩)] W _
    simp only [Ex.eval]
    have HQ := Lib.hid q2
    clear q2
    cases hv : σ (txt s) with
    | none =>
      rw [hv] at q1
      simp only [Option.isSome_none] at q1
      go_enter Tryz.func182, Tryz.ntmps182
      go_wp2_with (first | (at_lookup; refine wpList_lookup_own_ok_int _ rfl _ _ 119 rfl 9 3 .i64 law9 Tryz.underlying119 Tryz.underlying3 (zero3 _) m n D rfl hown _ _ rfl hkey ?_; intro c hat hwc) | (go_at_call 105; refine (fail_any 100 _).mono ?_; rintro e w' ⟨rfl, rfl⟩))
      exact ⟨rfl, Below.refl _ _, rfl⟩
    | some v =>
      rw [hv] at q1
      simp only [Option.isSome_some] at q1
      have hat0 := HQ.out v hv
      have HA := Lib.hid hat0
      clear hat0
      cases hsm : small v with
      | ok r =>
        go_enter Tryz.func182, Tryz.ntmps182
        go_wp2_with (first | (at_lookup; refine wpList_lookup_own_ok_int _ rfl _ _ 119 rfl 9 3 .i64 law9 Tryz.underlying119 Tryz.underlying3 (zero3 _) m n D rfl hown _ _ rfl hkey ?_; intro c hat hwc; obtain rfl : v = c := by (have := HA.out.symm.trans hat; simpa using this)) | (go_at_call 164; refine (retx_ok hsm (small_any _ _)).mono ?_; rintro e w' ⟨rfl, bb⟩))
        go_ret
        refine ⟨bb, ?_⟩
        simp only [hsm]
        rfl
      | error r =>
        go_enter Tryz.func182, Tryz.ntmps182
        go_wp2_with (first | (at_lookup; refine wpList_lookup_own_ok_int _ rfl _ _ 119 rfl 9 3 .i64 law9 Tryz.underlying119 Tryz.underlying3 (zero3 _) m n D rfl hown _ _ rfl hkey ?_; intro c hat hwc; obtain rfl : v = c := by (have := HA.out.symm.trans hat; simpa using this)) | (go_at_call 164; refine (retx_err hsm (small_any _ _)).mono ?_; rintro e w' ⟨rfl, bb⟩))
        refine ⟨rfl, bb, ?_⟩
        simp only [hsm]
set_option maxHeartbeats 1000000 in
/-- The function value of signs. -/
theorem neg_ex {F : Nat → Prop} {w : World} {X Y k : Nat} {g : FuncId} {c : Array Value} {a : Ex} (h : ExC F w g c a) (bX : Blk w X #[.func (.func g) #[] c] 133) (bY : Blk w Y #[.int .i64 k] 3) (hk : k ≤ 65536) :
    ExC (fun j => F j ∨ j = X ∨ j = Y) w 163 #[.pointer (some ⟨X, 0, none⟩), .pointer (some ⟨Y, 0, none⟩)] (.neg k a) := by
  refine ⟨enters163, ?_, .neg _ h.fine, ?_⟩
  · rintro k (h1 | rfl | rfl)
    · exact h.lt k h1
    · exact bX.lt
    · exact bY.lt
  · intro W m σ hW hkk hm
    have k1 := h.keep (w' := W) hW (fun k h => hkk k (.inl h))
    have kX : Blk W X #[.func (.func g) #[] c] 133 := (hkk X (by simp)).trans bX
    have kY : Blk W Y #[.int .i64 k] 3 := (hkk Y (by simp)).trans bY
    have x0 := (kX.cell 0).trans rfl
    have e1 := k1.enters
    show Calls Tryz.prog 163 #[.map (some m), .pointer (some ⟨X, 0, none⟩), .pointer (some ⟨Y, 0, none⟩)] W _
    simp only [Ex.eval]
    cases ha : a.eval σ with
    | error r =>
      simp only
      go_enter Tryz.func163, Tryz.ntmps163
      go_wp2_with fail
      refine (retx_err ha (k1.call hm)).mono ?_
      rintro e w1 ⟨rfl, b1⟩
      exact ⟨rfl, b1, rfl⟩
    | ok v =>
      simp only
      have hn := eval_within k1.fine ha
      unfold Within maxValue at hn
      by_cases hodd : k % 2 = 1
      · rw [if_pos hodd]
        have hdd : ((k : Int).tmod 2 == 1) = true := by
          have : (k : Int).tmod 2 = 1 := by rw [Int.tmod_eq_emod_of_nonneg (by omega)]; omega
          rw [this]; rfl
        cases hr : small (-v) with
        | ok r =>
          go_enter Tryz.func163, Tryz.ntmps163
          go_wp2_with fail
          refine (retx_ok ha (k1.call hm)).mono ?_
          rintro e w1 ⟨rfl, b1⟩
          clear x0 e1
          have y0 := ((kY.below b1).cell 0).trans rfl
          go_wp2_with fail
          refine (retx_ok hr (small_any _ _)).mono ?_
          rintro e w2 ⟨rfl, b2⟩
          go_wp2_with fail
          go_ret
          exact ⟨b1.trans (b2.mono b1.size), rfl⟩
        | error r =>
          go_enter Tryz.func163, Tryz.ntmps163
          go_wp2_with fail
          refine (retx_ok ha (k1.call hm)).mono ?_
          rintro e w1 ⟨rfl, b1⟩
          clear x0 e1
          have y0 := ((kY.below b1).cell 0).trans rfl
          go_wp2_with fail
          refine (retx_err hr (small_any _ _)).mono ?_
          rintro e w2 ⟨rfl, b2⟩
          exact ⟨rfl, b1.trans (b2.mono b1.size), rfl⟩
      · rw [if_neg hodd]
        have hdd : ((k : Int).tmod 2 == 1) = false := by
          have : (k : Int).tmod 2 = 0 := by rw [Int.tmod_eq_emod_of_nonneg (by omega)]; omega
          rw [this]; rfl
        have hr : small v = .ok v := small_within (by unfold Within maxValue; omega)
        rw [hr]
        go_enter Tryz.func163, Tryz.ntmps163
        go_wp2_with fail
        refine (retx_ok ha (k1.call hm)).mono ?_
        rintro e w1 ⟨rfl, b1⟩
        clear x0 e1
        have y0 := ((kY.below b1).cell 0).trans rfl
        go_wp2_with fail
        refine (retx_ok hr (small_any _ _)).mono ?_
        rintro e w2 ⟨rfl, b2⟩
        go_wp2_with fail
        go_ret
        exact ⟨b1.trans (b2.mono b1.size), rfl⟩
end Go.Proofs.YtddnmocoaahlfaaGreatDoor
