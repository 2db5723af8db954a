/-
  The law ScriptCompiles, walked, from the contract of the reference's Compile.
  The lines that stand for statements, by the reference's contracts.
  The law ScriptCompiles, walked. Conditions: the package-level variables hold what the program lays; the tables lie in memory.
-/
import Derived.Test.YtddnmocoaahlfaaGreatDoorY33
import Derived.Test.YtddnmocoaahlfaaGreatDoorCmN
import Derived.Test.YtddnmocoaahlfaaGreatDoorCmG
import Derived.Test.YtddnmocoaahlfaaGreatDoorCmH
import Derived.Test.YtddnmocoaahlfaaGreatDoorCmI
import Derived.Test.YtddnmocoaahlfaaGreatDoorCmJ
import Derived.Test.YtddnmocoaahlfaaGreatDoorCmK
import Derived.Test.YtddnmocoaahlfaaGreatDoorRsC
set_option linter.unusedVariables false
set_option linter.unusedSimpArgs false
namespace Go.Proofs.YtddnmocoaahlfaaGreatDoor
open Go.RowKit Go.Shelf
set_option maxRecDepth 100000 in
set_option maxHeartbeats 8000000 in
theorem compiles_of {w : World} (he : Env w) (s : ByteArray) (hcr : ∀ w', Calls Tryz.prog 30 #[.string s] w' (RetCR w' (txt s))) : Calls Tryz.prog 6 #[.string s] w (RetT w) := by
  have HE := Lib.hid he
  have HCR := Lib.hid hcr
  have HC1 := Lib.hid (comp_any he s)
  have HA0 := Lib.hid (awake_any he)
  clear he hcr
  by_cases hmid : 3000 < s.size ∧ s.size ≤ 65536
  · have d1 : decide ((3000 : Int) < (s.size : Int)) = true := decide_eq_true (by omega)
    have d2 : decide ((s.size : Int) ≤ 65536) = true := decide_eq_true (by omega)
    clear hmid
    go_enter Tryz.func6, Tryz.ntmps6
    go_wp2_with fail
    refine HA0.out.mono ?_
    rintro e w1 ⟨rfl, b1⟩
    go_wp2_with fail
    go_ret
    exact ⟨rfl, b1⟩
  have body : ∀ (d : Bool), d = decide ((3000 : Int) < (s.size : Int)) → (d = true → decide ((s.size : Int) ≤ 65536) = false) → Calls Tryz.prog 6 #[.string s] w (RetT w) := by
    intro d hd hd2
    cases d with
    | false =>
      have d1 := hd.symm
      clear hd hd2 hmid
      go_enter Tryz.func6, Tryz.ntmps6
      go_wp2_with fail
      refine HC1.out.mono ?_
      rintro e w1 ⟨b1, v1, rfl, a1, n1⟩
      have A1 := Lib.hid a1
      have N1 := Lib.hid n1
      obtain ⟨p1, c1, rfl⟩ := a1.form
      clear a1 n1
      go_wp2_with fail
      refine (HCR.out w1).mono ?_
      rintro e w2 ⟨b2, v2, bb, rfl, a2, n2⟩
      obtain ⟨p2, c2, rfl⟩ := a2.form
      have HS := Lib.hid (sameActs_eq (A1.out.below b2) a2 N1.out)
      have l2 : Below w.heap.size w w2 := b1.trans (b2.mono b1.size)
      clear a2 n2 A1 N1
      generalize (compT (txt s)).1.length = m at *
      generalize (compT (txt s)).2.2 = e1 at *
      generalize (compT (txt s)).2.1 = k1 at *
      have z1 : ((k1 : Int) == (k1 : Int)) = true := by simp
      have z2 : (e1 == e1) = true := by simp
      go_wp2_with fail
      refine HS.out.mono ?_
      rintro e w3 ⟨rfl, b3⟩
      have l3 := l2.trans (b3.mono l2.size)
      have HA := Lib.hid (awake_any (HE.out.below l3))
      go_wp2_with fail
      refine HA.out.mono ?_
      rintro e w4 ⟨rfl, b4⟩
      go_wp2_with fail
      go_ret
      exact ⟨rfl, l3.trans (b4.mono l3.size)⟩
    | true =>
      have d1 := hd.symm
      have d2 := hd2 rfl
      clear hd hd2 hmid
      go_enter Tryz.func6, Tryz.ntmps6
      go_wp2_with fail
      refine HC1.out.mono ?_
      rintro e w1 ⟨b1, v1, rfl, a1, n1⟩
      have A1 := Lib.hid a1
      have N1 := Lib.hid n1
      obtain ⟨p1, c1, rfl⟩ := a1.form
      clear a1 n1
      go_wp2_with fail
      refine (HCR.out w1).mono ?_
      rintro e w2 ⟨b2, v2, bb, rfl, a2, n2⟩
      obtain ⟨p2, c2, rfl⟩ := a2.form
      have HS := Lib.hid (sameActs_eq (A1.out.below b2) a2 N1.out)
      have l2 : Below w.heap.size w w2 := b1.trans (b2.mono b1.size)
      clear a2 n2 A1 N1
      generalize (compT (txt s)).1.length = m at *
      generalize (compT (txt s)).2.2 = e1 at *
      generalize (compT (txt s)).2.1 = k1 at *
      have z1 : ((k1 : Int) == (k1 : Int)) = true := by simp
      have z2 : (e1 == e1) = true := by simp
      go_wp2_with fail
      refine HS.out.mono ?_
      rintro e w3 ⟨rfl, b3⟩
      have l3 := l2.trans (b3.mono l2.size)
      have HA := Lib.hid (awake_any (HE.out.below l3))
      go_wp2_with fail
      refine HA.out.mono ?_
      rintro e w4 ⟨rfl, b4⟩
      go_wp2_with fail
      go_ret
      exact ⟨rfl, l3.trans (b4.mono l3.size)⟩
  exact body _ rfl (fun h => decide_eq_false (by have := of_decide_eq_true h; omega))
end Go.Proofs.YtddnmocoaahlfaaGreatDoor
namespace Go.Proofs.YtddnmocoaahlfaaGreatDoor
open Go.RowKit Go.Shelf
theorem rep_ones {w0 : World} {W E L : Value} {T : Tabs} {n : Nat} (hpg : Pg w0 W E L T n) {lo hi : Nat} {ss : List Stm} (r : Rep T lo hi ss) : hi ≤ n → Ones w0 W E L T lo hi ss := by
  induction r with
  | nil i => intro _; exact .nil i
  | skip h r ih => intro hn; exact .skip h (ih hn)
  | @act i hi k n' t xs ss h hp hk r ih =>
    intro hn
    have := r.le
    refine .one (by rw [h]; simp) ?_ (Nat.lt_succ_self i) (ih hn)
    by_cases kl : k = sLet
    · exact one_let kl hpg (by omega) h hp
    · exact one_act kl hk.1 hk.2 hpg (by omega) h hp
  | @loop i e hi n' t xs bd ss h hp he b r ih1 ih2 =>
    intro hn
    have := r.le
    have := b.le
    exact .one (by rw [h]; simp) (one_for rfl he (by omega) (span_any hpg (by omega) (ih1 (by omega))) hpg (by omega) h hp) (by omega) (ih2 hn)
  | @cond0 i e hi n' t xs bd ss h hp he hl b r ih1 ih2 =>
    intro hn
    have := r.le
    have := b.le
    exact .one (by rw [h]; simp) (one_if rfl he (by omega) hl (Nat.le_refl _) (span_any hpg (by omega) (ih1 (by omega))) (fun h => absurd rfl h) (fun _ => rfl) hpg (by omega) h hp) (by omega) (ih2 hn)
  | @cond1 i m e hi n' t xs bd ot ss h hp he hl b o r ih1 ih2 ih3 =>
    intro hn
    have := r.le
    have := b.le
    have := o.le
    exact .one (by rw [h]; simp) (one_if rfl he (by omega) hl (by omega) (span_any hpg (by omega) (ih1 (by omega))) (fun _ => span_any hpg (by omega) (ih2 (by omega))) (fun h => by omega) hpg (by omega) h hp) (by omega) (ih3 hn)
theorem span_rep {w0 : World} {W E L : Value} {T : Tabs} {n : Nat} (hpg : Pg w0 W E L T n) {lo hi : Nat} {ss : List Stm} (r : Rep T lo hi ss) (hn : hi ≤ n) : SpanC w0 W E L lo hi ss := span_any hpg hn (rep_ones hpg r hn)
end Go.Proofs.YtddnmocoaahlfaaGreatDoor
namespace Go.Proofs.YtddnmocoaahlfaaGreatDoor
open Go.RowKit Go.Shelf
theorem compiles_walk {w : World} (he : Env w) (s : ByteArray) : Calls Tryz.prog 6 #[.string s] w (RetT w) :=
  compiles_of he s (fun w' => compR_of s (fun h => readR_any s h) (fun w0 W E L T n ss hpg r => span_rep hpg r (Nat.le_refl _)))
end Go.Proofs.YtddnmocoaahlfaaGreatDoor
