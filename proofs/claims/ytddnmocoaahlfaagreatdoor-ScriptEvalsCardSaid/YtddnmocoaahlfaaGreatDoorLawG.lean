/-
  The law ScriptEvals, walked. Conditions: the package-level variables hold what the program lays.
-/
import Derived.Test.YtddnmocoaahlfaaGreatDoorZs
import Derived.Test.YtddnmocoaahlfaaGreatDoorLawV
set_option linter.unusedVariables false
set_option linter.unusedSimpArgs false
namespace Go.Proofs.YtddnmocoaahlfaaGreatDoor
open Go.RowKit Go.Shelf

set_option maxRecDepth 100000 in
set_option maxHeartbeats 4000000 in
theorem evals_walk {w : World} (he : Env w) (s : ByteArray) {nv vv : Value} {ns : List ByteArray} {vs : List Int} (hn : SRw w nv ns) (hnb : ∀ x ∈ ns, x.size ≤ maxLen) (hv : NRow w vv vs) (hI : ∀ v ∈ vs, I64 v) (hm1 : ns.length ≤ maxLen) (hm2 : vs.length ≤ maxLen) : Calls Tryz.prog 10 #[.string s, nv, vv] w (RetT w) := by
  have HA := Lib.hid (awake_any he)
  obtain ⟨na, nc, rfl⟩ := hn.form
  obtain ⟨va, vc, rfl⟩ := hv.form
  have hm1' : ns.length ≤ 9223372036854775807 := by unfold maxLen at hm1; omega
  have hm2' : vs.length ≤ 9223372036854775807 := by unfold maxLen at hm2; omega
  by_cases hbig : 3000 < s.size
  · have hd : decide ((3000 : Int) < (s.size : Int)) = true := decide_eq_true (by omega)
    clear he hn hv
    go_enter Tryz.func10, Tryz.ntmps10
    go_wp2_with fail
    refine HA.out.mono ?_
    rintro e w1 ⟨rfl, b1⟩
    go_wp2_with fail
    go_ret
    exact ⟨rfl, b1⟩
  have hd : decide ((3000 : Int) < (s.size : Int)) = false := decide_eq_false (by omega)
  by_cases hb2 : 100 < ns.length
  · have hd2 : decide ((100 : Int) < (ns.length : Int)) = true := decide_eq_true (by omega)
    clear he hn hv
    go_enter Tryz.func10, Tryz.ntmps10
    go_wp2_with fail
    refine HA.out.mono ?_
    rintro e w1 ⟨rfl, b1⟩
    go_wp2_with fail
    go_ret
    exact ⟨rfl, b1⟩
  have hd2 : decide ((100 : Int) < (ns.length : Int)) = false := decide_eq_false (by omega)
  by_cases hb3 : 100 < vs.length
  · have hd3 : decide ((100 : Int) < (vs.length : Int)) = true := decide_eq_true (by omega)
    clear he hn hv
    go_enter Tryz.func10, Tryz.ntmps10
    go_wp2_with fail
    refine HA.out.mono ?_
    rintro e w1 ⟨rfl, b1⟩
    go_wp2_with fail
    go_ret
    exact ⟨rfl, b1⟩
  have hd3 : decide ((100 : Int) < (vs.length : Int)) = false := decide_eq_false (by omega)
  obtain ⟨r, hr⟩ : ∃ r, r = evalT (txt s) (scopeOf ns vs) := ⟨_, rfl⟩
  have H1 := eval_any (by omega) he.errR hn hnb hv hI (by omega) (by omega) (s := s)
  rw [← hr] at H1
  obtain ⟨x, y⟩ := r
  have HP := Lib.hid H1
  have HQ := Lib.hid (fun (W : World) (hW : Below w.heap.size w W) => by
    have := evalR_any (w := W) (s := s) (ns := ns) (vs := vs) ⟨hn.below hW, hv.below hW, by omega, by omega, by omega, rfl, rfl⟩
    rw [← hr] at this
    exact this)
  have HE := Lib.hid he
  clear H1 hr he hn hv HA
  go_enter Tryz.func10, Tryz.ntmps10
  go_wp2_with fail
  refine HP.out.mono ?_
  rintro e w1 ⟨b1, rfl⟩
  go_wp2_with fail
  refine (HQ.out w1 b1).mono ?_
  rintro e w2 ⟨b2, rfl⟩
  have b02 := b1.trans (b2.mono b1.size)
  have HA1 := Lib.hid (awake_any (HE.out.below b02))
  go_wp2_with fail
  refine HA1.out.mono ?_
  rintro e w3 ⟨rfl, b3⟩
  go_wp2_with fail
  go_ret
  exact ⟨rfl, b02.trans (b3.mono b02.size)⟩
end Go.Proofs.YtddnmocoaahlfaaGreatDoor
