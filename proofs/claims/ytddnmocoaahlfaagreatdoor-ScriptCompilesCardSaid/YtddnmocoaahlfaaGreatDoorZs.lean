/-
  How the reference's reader notes the first error of an evaluation, in plain Lean.
  The small functions of the reference's reader of expressions: bit, size, within, Apply.
  More small functions of the reference's reader: fail, is, run.
  The reference's prim, read at a place.
  The reference's prim at numerals and names, and as a whole.
  The reference's prim as a whole, and sign.
  The reference's level: one line of the grammar, and the last one.
  The reference's Eval. Conditions: the values are from -MaxValue to MaxValue; texts of at most 65536 bytes; the rows of names and values lie in memory.
-/
import Derived.Test.YtddnmocoaahlfaaGreatDoorPlain
import Derived.Test.YtddnmocoaahlfaaGreatDoorBase
import Derived.Test.YtddnmocoaahlfaaGreatDoorZr
import Derived.Test.YtddnmocoaahlfaaGreatDoorTok
import Derived.BigQuiet
import Derived.Test.YtddnmocoaahlfaaGreatDoorY33
import Derived.Test.YtddnmocoaahlfaaGreatDoorY32
import Derived.Deep.DeepCutAuto
import Derived.Deep.RegionHeld3
import Derived.Deep.LoopGhost
set_option linter.unusedVariables false
set_option linter.unusedSimpArgs false
set_option maxRecDepth 100000
set_option maxHeartbeats 8000000
namespace Go.Proofs.YtddnmocoaahlfaaGreatDoor
def Note (σ : List UInt8 → Option Int) (e0 : Int) (x : Ex) (e v : Int) : Prop :=
  if e0 = 0 then (match x.eval σ with | .ok y => e = 0 ∧ v = y | .error k => e = k) else e = e0
theorem Note.zero {σ : List UInt8 → Option Int} {e0 : Int} {x : Ex} {e v : Int} (h : Note σ e0 x e v) (he : e = 0) : e0 = 0 ∧ x.eval σ = .ok v := by
  unfold Note at h
  split at h
  · rename_i h0
    refine ⟨h0, ?_⟩
    cases hx : x.eval σ with
    | ok y => rw [hx] at h; rw [h.2]
    | error k => rw [hx] at h; have := eval_err hx; simp only at h; omega
  · omega
theorem Note.of_ok {σ : List UInt8 → Option Int} {e0 : Int} {x : Ex} {v : Int} (h0 : e0 = 0) (h : x.eval σ = .ok v) : Note σ e0 x 0 v := by
  unfold Note; rw [if_pos h0, h]; exact ⟨rfl, rfl⟩
theorem Note.bin {σ : List UInt8 → Option Int} {e0 e1 e2 : Int} {a b : Ex} {va vb : Int} (op : UInt8) (h1 : Note σ e0 a e1 va) (h2 : Note σ e1 b e2 vb) (hn : e2 ≠ 0) (v : Int) : Note σ e0 (.bin op a b) e2 v := by
  unfold Note at *
  split
  · rename_i h0
    rw [if_pos h0] at h1
    unfold Ex.eval
    cases ha : a.eval σ with
    | error k =>
      rw [ha] at h1
      simp only at h1 ⊢
      have := eval_err ha
      rw [if_neg (by omega)] at h2
      omega
    | ok y =>
      rw [ha] at h1
      simp only at h1 ⊢
      rw [if_pos h1.1] at h2
      cases hb : b.eval σ with
      | error k => rw [hb] at h2; exact h2
      | ok z => rw [hb] at h2; exact absurd h2.1 hn
  · rename_i h0
    rw [if_neg h0] at h1
    rw [if_neg (by omega)] at h2
    omega
def Applied (op : UInt8) (a b x : Int) (ok : Bool) : Prop := match applyOp op a b with | .ok y => ok = true ∧ x = y | .error _ => ok = false
theorem Note.apply {σ : List UInt8 → Option Int} {e0 e1 e2 : Int} {a b : Ex} {va vb x : Int} {ok : Bool} (op : UInt8) (h1 : Note σ e0 a e1 va) (h2 : Note σ e1 b e2 vb) (he : e2 = 0) (hap : Applied op va vb x ok) : Note σ e0 (.bin op a b) (if ok = true then 0 else 101) x := by
  obtain ⟨h10, hb⟩ := h2.zero he
  obtain ⟨h00, ha⟩ := h1.zero h10
  unfold Note
  rw [if_pos h00]
  unfold Ex.eval
  rw [ha, hb]
  simp only
  unfold Applied at hap
  cases hx : applyOp op va vb with
  | ok y => rw [hx] at hap; simp only at hap ⊢; rw [hap.1]; exact ⟨rfl, hap.2⟩
  | error k => rw [hx] at hap; simp only at hap ⊢; rw [hap, applyOp_err hx]; rfl
theorem Note.neg {σ : List UInt8 → Option Int} {e0 e v : Int} {x : Ex} (hx : Fine x) (k : Nat) (h : Note σ e0 x e v) (v' : Int) (hv : e = 0 → v' = if k % 2 = 1 then -v else v) : Note σ e0 (if k = 0 then x else .neg k x) e v' := by
  by_cases he : e = 0
  · obtain ⟨h0, hxv⟩ := h.zero he
    have hw := eval_within hx hxv
    have hv' := hv he
    subst he
    by_cases hk : k = 0
    · rw [if_pos hk]
      subst hk
      rw [if_neg (by decide)] at hv'
      exact .of_ok h0 (hv' ▸ hxv)
    · rw [if_neg hk]
      refine .of_ok h0 ?_
      unfold Ex.eval
      rw [hxv]
      simp only
      have hw2 : Within (if k % 2 = 1 then -v else v) := by
        unfold Within maxValue at *
        split <;> omega
      rw [small_within hw2, hv']
  · by_cases hk : k = 0
    · rw [if_pos hk]
      unfold Note at h ⊢
      split
      · rename_i h0
        rw [if_pos h0] at h
        cases hq : x.eval σ with
        | ok y => rw [hq] at h; exact absurd h.1 he
        | error q => rw [hq] at h; exact h
      · rename_i h0
        rw [if_neg h0] at h
        exact h
    · rw [if_neg hk]
      unfold Note at h ⊢
      split
      · rename_i h0
        rw [if_pos h0] at h
        unfold Ex.eval
        cases hq : x.eval σ with
        | ok y => rw [hq] at h; exact absurd h.1 he
        | error q => rw [hq] at h; exact h
      · rename_i h0
        rw [if_neg h0] at h
        exact h
theorem Note.name {σ : List UInt8 → Option Int} {s : List UInt8} {e0 : Int} : (σ s = none → Note σ e0 (.name s) (if e0 = 0 then 100 else e0) 0) ∧ ∀ v, σ s = some v → (Within v → Note σ e0 (.name s) e0 v) ∧ (¬ Within v → Note σ e0 (.name s) (if e0 = 0 then 101 else e0) 0) := by
  refine ⟨fun h => ?_, fun v h => ⟨fun hw => ?_, fun hw => ?_⟩⟩
  · unfold Note
    split
    · unfold Ex.eval; rw [h]
    · rfl
  · unfold Note
    split
    · rename_i e; unfold Ex.eval; rw [h]; simp only; rw [small_within hw]; exact ⟨e, rfl⟩
    · rfl
  · unfold Note
    split
    · unfold Ex.eval; rw [h]; simp only
      unfold small
      rw [if_pos (by unfold Within at hw; omega)]
    · rfl
end Go.Proofs.YtddnmocoaahlfaaGreatDoor
namespace Go.Proofs.YtddnmocoaahlfaaGreatDoor
open Go.RowKit
theorem bitR_any (b : Bool) (w : World) : Calls Tryz.prog 74 #[.bool b] w (fun e w' => e = .returned (.int .i64 (bit b)) ∧ w' = w) := by
  cases b
  · go_enter Tryz.func74, Tryz.ntmps74
    go_wp2
    go_ret
    exact ⟨rfl, rfl⟩
  · go_enter Tryz.func74, Tryz.ntmps74
    go_wp2
    go_ret
    exact ⟨rfl, rfl⟩
theorem sizeR_any (n : Int) (w : World) (h : Within n) : Calls Tryz.prog 146 #[.int .i64 n] w (fun e w' => e = .returned (.int .i64 (n.natAbs : Int)) ∧ w' = w) := by
  unfold Within maxValue at h
  by_cases h1 : n < 0
  · go_enter Tryz.func146, Tryz.ntmps146
    go_wp2
    go_ret
    refine ⟨?_, rfl⟩
    have : (n.natAbs : Int) = -n := by omega
    rw [this]; rfl
  · go_enter Tryz.func146, Tryz.ntmps146
    go_wp2
    go_ret
    refine ⟨?_, rfl⟩
    have : (n.natAbs : Int) = n := by omega
    rw [this]; rfl
instance (n : Int) : Decidable (Within n) := inferInstanceAs (Decidable (_ ∧ _))
theorem withinR_any (n : Int) (w : World) : Calls Tryz.prog 147 #[.int .i64 n] w fun e w' => e = .returned (.bool (decide (Within n))) ∧ w' = w := by
  by_cases h1 : -9007199254740992 ≤ n
  · have d1 : decide (n ≥ -9007199254740992) = true := decide_eq_true h1
    by_cases h2 : n ≤ 9007199254740992
    · have d2 : decide (n ≤ 9007199254740992) = true := decide_eq_true h2
      have d3 : decide (Within n) = true := decide_eq_true ⟨h1, h2⟩
      rw [d3]
      go_enter Tryz.func147, Tryz.ntmps147
      go_wp2_with fail
      go_ret
      exact ⟨rfl, rfl⟩
    · have d2 : decide (n ≤ 9007199254740992) = false := decide_eq_false h2
      have d3 : decide (Within n) = false := decide_eq_false fun h => h2 h.2
      rw [d3]
      go_enter Tryz.func147, Tryz.ntmps147
      go_wp2_with fail
      go_ret
      exact ⟨rfl, rfl⟩
  · have d1 : decide (n ≥ -9007199254740992) = false := decide_eq_false h1
    have d3 : decide (Within n) = false := decide_eq_false fun h => h1 h.1
    rw [d3]
    go_enter Tryz.func147, Tryz.ntmps147
    go_wp2_with fail
    go_ret
    exact ⟨rfl, rfl⟩
theorem applied_small {op : UInt8} {a b n : Int} (h : applyOp op a b = small n) : Applied op a b n (decide (Within n)) := by
  unfold Applied
  rw [h]
  by_cases hw : Within n
  · rw [small_within hw]; exact ⟨decide_eq_true hw, rfl⟩
  · have : small n = .error 101 := by
      unfold small
      rw [if_pos (by unfold Within at hw; omega)]
    rw [this]
    exact decide_eq_false hw
theorem applied_ok {op : UInt8} {a b n : Int} (h : applyOp op a b = .ok n) (hw : Within n) : Applied op a b n (decide (Within n)) := by
  unfold Applied; rw [h]; exact ⟨decide_eq_true hw, rfl⟩
def RetAp (w : World) (op : UInt8) (a b : Int) (e : Ending) (w' : World) : Prop := w' = w ∧ ∃ x ok, e = .returned (.tuple #[.int .i64 x, .bool ok]) ∧ Applied op a b x ok
theorem mul_fit {a b : Int} (h0 : a ≠ 0) : (((9007199254740992 : Int).tdiv (a.natAbs : Int)) < (b.natAbs : Int)) ↔ 9007199254740992 < a.natAbs * b.natAbs := by
  have h1 : 0 < a.natAbs := by omega
  have e : (9007199254740992 : Int).tdiv (a.natAbs : Int) = ((9007199254740992 / a.natAbs : Nat) : Int) := rfl
  rw [e]
  constructor
  · intro h
    have h2 : 9007199254740992 / a.natAbs < b.natAbs := by omega
    have h3 := Nat.lt_mul_of_div_lt h2 h1
    rwa [Nat.mul_comm]
  · intro h
    have h2 : 9007199254740992 / a.natAbs < b.natAbs := by
      apply Nat.div_lt_of_lt_mul
      exact h
    omega
theorem mul_facts {a b : Int} (h0 : a ≠ 0) (ha : Within a) (hb : Within b) : ∃ na nb q : Nat, a.natAbs = na ∧ b.natAbs = nb ∧ (9007199254740992 : Int).tdiv (na : Int) = (q : Int) ∧ (((na : Int) == 0) = false ∧ na ≠ 0) ∧ wrap64 (q : Int) = (q : Int) ∧ (((q : Int) < (nb : Int) ∧ applyOp 42 a b = .error 101) ∨ (¬ (q : Int) < (nb : Int) ∧ -9223372036854775808 ≤ a * b ∧ a * b ≤ 9223372036854775807)) := by
  have hf := mul_fit (b := b) h0
  have e : (9007199254740992 : Int).tdiv (a.natAbs : Int) = ((9007199254740992 / a.natAbs : Nat) : Int) := rfl
  have hle := Nat.div_le_self 9007199254740992 a.natAbs
  have hab : (a * b).natAbs = a.natAbs * b.natAbs := Int.natAbs_mul a b
  rw [← hab] at hf
  rw [e] at hf
  refine ⟨a.natAbs, b.natAbs, 9007199254740992 / a.natAbs, rfl, rfl, e, ⟨by simp [h0], by omega⟩, ?_, ?_⟩
  · unfold wrap64
    generalize 9007199254740992 / a.natAbs = q at *
    clear hf hab e
    omega
  · by_cases hbig : 9007199254740992 < (a * b).natAbs
    · refine .inl ⟨hf.2 hbig, ?_⟩
      show small (a * b) = _
      unfold small maxValue
      rw [if_pos (by omega)]
    · exact .inr ⟨fun h => hbig (hf.1 h), by omega, by omega⟩
theorem mulR_any (a b : Int) (w : World) (ha : Within a) (hb : Within b) : Calls Tryz.prog 115 #[.int .u8 ((42 : UInt8).toNat : Nat), .int .i64 a, .int .i64 b] w (RetAp w 42 a b) := by
  have e : applyOp 42 a b = small (a * b) := rfl
  have HA := Lib.hid (fun w => sizeR_any a w ha)
  have HB := Lib.hid (fun w => sizeR_any b w hb)
  by_cases h0 : a = 0
  · subst h0
    have hz : (0 : Int) * b = 0 := Int.zero_mul b
    have hap := applied_small e
    rw [hz] at hap
    have hW := withinR_any 0
    go_enter Tryz.func115, Tryz.ntmps115
    go_wp2_with (go_at_call 147; refine (hW _).mono ?_; rintro e w' ⟨rfl, rfl⟩)
    go_ret2
    exact ⟨rfl, _, _, rfl, hap⟩
  · have hne : (a != 0) = true := by simp [h0]
    obtain ⟨na, nb, q, hna, hnb, e2, ⟨hn0, hn1⟩, hwr, hcase⟩ := mul_facts h0 ha hb
    rw [hna] at HA
    rw [hnb] at HB
    clear hna hnb ha hb h0
    rcases hcase with ⟨hlt, hs⟩ | ⟨hlt, hw1, hw2⟩
    · have HS := Lib.hid hs
      clear e hs
      go_enter Tryz.func115, Tryz.ntmps115
      go_wp2_with (first | (go_at_call 146; (with_reducible refine (HA.out _).mono ?_); rintro e w' ⟨rfl, rfl⟩) | (go_at_call 146; (with_reducible refine (HB.out _).mono ?_); rintro e w' ⟨rfl, rfl⟩))
      go_ret2
      exact ⟨rfl, _, _, rfl, by unfold Applied; rw [HS.out]⟩
    · have hap := Lib.hid (applied_small e)
      have hW := Lib.hid (withinR_any (a * b))
      clear e
      go_enter Tryz.func115, Tryz.ntmps115
      go_wp2_with (first | (go_at_call 146; (with_reducible refine (HA.out _).mono ?_); rintro e w' ⟨rfl, rfl⟩) | (go_at_call 146; (with_reducible refine (HB.out _).mono ?_); rintro e w' ⟨rfl, rfl⟩) | (go_at_call 147; (with_reducible refine (hW.out _).mono ?_); rintro e w' ⟨rfl, rfl⟩))
      go_ret2
      exact ⟨rfl, _, _, rfl, hap.out⟩
theorem applyR_any (op : UInt8) (a b : Int) (w : World) (ho : op ∈ [43, 45, 42, 47, 37, 61, 60, 62, 38, (124 : UInt8)]) (ha : Within a) (hb : Within b) : Calls Tryz.prog 115 #[.int .u8 op.toNat, .int .i64 a, .int .i64 b] w (RetAp w op a b) := by
  simp only [List.mem_cons, List.not_mem_nil, or_false] at ho
  rcases ho with rfl | rfl | rfl | rfl | rfl | rfl | rfl | rfl | rfl | rfl
  · have hap := Lib.hid (applied_small (show applyOp 43 a b = small (a + b) from rfl))
    have hW := Lib.hid (withinR_any (a + b))
    unfold Within maxValue at ha hb
    go_enter Tryz.func115, Tryz.ntmps115
    go_wp2_with (go_at_call 147; (with_reducible refine (hW.out _).mono ?_); rintro e w' ⟨rfl, rfl⟩)
    go_ret2
    exact ⟨rfl, _, _, rfl, hap.out⟩
  · have hap := Lib.hid (applied_small (show applyOp 45 a b = small (a - b) from rfl))
    have hW := Lib.hid (withinR_any (a - b))
    unfold Within maxValue at ha hb
    go_enter Tryz.func115, Tryz.ntmps115
    go_wp2_with (go_at_call 147; (with_reducible refine (hW.out _).mono ?_); rintro e w' ⟨rfl, rfl⟩)
    go_ret2
    exact ⟨rfl, _, _, rfl, hap.out⟩
  · exact mulR_any a b w ha hb
  · have e : applyOp 47 a b = if b = 0 then .error 101 else .ok (a.tdiv b) := rfl
    by_cases h0 : b = 0
    · subst h0
      rw [if_pos rfl] at e
      have HE := Lib.hid e
      clear e ha hb
      go_enter Tryz.func115, Tryz.ntmps115
      go_wp2_with fail
      go_ret2
      exact ⟨rfl, _, _, rfl, by unfold Applied; rw [HE.out]⟩
    · rw [if_neg h0] at e
      have hq := tdiv_within (b := b) ha
      have hap := Lib.hid (applied_ok e hq)
      have hW := Lib.hid (withinR_any (a.tdiv b))
      unfold Within maxValue at ha hb hq
      have hwr : wrap64 (a.tdiv b) = a.tdiv b := by unfold wrap64; omega
      clear e
      go_enter Tryz.func115, Tryz.ntmps115
      go_wp2_with (go_at_call 147; (with_reducible refine (hW.out _).mono ?_); rintro e w' ⟨rfl, rfl⟩)
      go_ret2
      exact ⟨rfl, _, _, rfl, hap.out⟩
  · have e : applyOp 37 a b = if b = 0 then .error 101 else .ok (a.tmod b) := rfl
    by_cases h0 : b = 0
    · subst h0
      rw [if_pos rfl] at e
      have HE := Lib.hid e
      clear e ha hb
      go_enter Tryz.func115, Tryz.ntmps115
      go_wp2_with fail
      go_ret2
      exact ⟨rfl, _, _, rfl, by unfold Applied; rw [HE.out]⟩
    · rw [if_neg h0] at e
      have hq := tdiv_within (b := b) ha
      have hm := tmod_within (b := b) ha
      have hap := Lib.hid (applied_ok e hm)
      have hW := Lib.hid (withinR_any (a.tmod b))
      have hdm : a - b * a.tdiv b = a.tmod b := by have := Int.mul_tdiv_add_tmod a b; omega
      unfold Within maxValue at ha hb hq hm
      have hwr : wrap64 (a.tdiv b) = a.tdiv b := by unfold wrap64; omega
      have hw2 : wrap64 (b * a.tdiv b) = b * a.tdiv b := by unfold wrap64; omega
      have hw3 : wrap64 (a - b * a.tdiv b) = a.tmod b := by rw [hdm]; unfold wrap64; omega
      clear e hdm
      go_enter Tryz.func115, Tryz.ntmps115
      go_wp2_with (go_at_call 147; (with_reducible refine (hW.out _).mono ?_); rintro e w' ⟨rfl, rfl⟩)
      go_ret2
      exact ⟨rfl, _, _, rfl, hap.out⟩
  · have hap := Lib.hid (applied_ok (show applyOp 61 a b = .ok (bit (decide (a = b))) from rfl) (bit_within _))
    have hW := Lib.hid (withinR_any (bit (decide (a = b))))
    have h3 : (a == b) = decide (a = b) := by by_cases h : a = b <;> simp [h]
    go_enter Tryz.func115, Tryz.ntmps115
    go_wp2_with (first | (go_at_call 74; refine (bitR_any _ _).mono ?_; rintro e w' ⟨rfl, rfl⟩) | (go_at_call 147; refine (hW.out _).mono ?_; rintro e w' ⟨rfl, rfl⟩))
    go_ret2
    exact ⟨rfl, _, _, rfl, hap.out⟩
  · have hap := Lib.hid (applied_ok (show applyOp 60 a b = .ok (bit (decide (a < b))) from rfl) (bit_within _))
    have hW := Lib.hid (withinR_any (bit (decide (a < b))))
    go_enter Tryz.func115, Tryz.ntmps115
    go_wp2_with (first | (go_at_call 74; refine (bitR_any _ _).mono ?_; rintro e w' ⟨rfl, rfl⟩) | (go_at_call 147; refine (hW.out _).mono ?_; rintro e w' ⟨rfl, rfl⟩))
    go_ret2
    exact ⟨rfl, _, _, rfl, hap.out⟩
  · have hap := Lib.hid (applied_ok (show applyOp 62 a b = .ok (bit (decide (a > b))) from rfl) (bit_within _))
    have hW := Lib.hid (withinR_any (bit (decide (a > b))))
    go_enter Tryz.func115, Tryz.ntmps115
    go_wp2_with (first | (go_at_call 74; refine (bitR_any _ _).mono ?_; rintro e w' ⟨rfl, rfl⟩) | (go_at_call 147; refine (hW.out _).mono ?_; rintro e w' ⟨rfl, rfl⟩))
    go_ret2
    exact ⟨rfl, _, _, rfl, hap.out⟩
  · have hap := Lib.hid (applied_ok (show applyOp 38 a b = .ok (bit (decide (a ≠ 0 ∧ b ≠ 0))) from rfl) (bit_within _))
    have hW := Lib.hid (withinR_any (bit (decide (a ≠ 0 ∧ b ≠ 0))))
    by_cases h1 : a = 0
    · have h3 : decide (a ≠ 0 ∧ b ≠ 0) = false := by simp [h1]
      rw [h3] at hap hW
      have d1 : (a != 0) = false := by simp [h1]
      clear h3 h1
      go_enter Tryz.func115, Tryz.ntmps115
      go_wp2_with (first | (go_at_call 74; refine (bitR_any _ _).mono ?_; rintro e w' ⟨rfl, rfl⟩) | (go_at_call 147; refine (hW.out _).mono ?_; rintro e w' ⟨rfl, rfl⟩))
      go_ret2
      exact ⟨rfl, _, _, rfl, hap.out⟩
    · have d1 : (a != 0) = true := by simp [h1]
      have h3 : decide (a ≠ 0 ∧ b ≠ 0) = (b != 0) := by by_cases h : b = 0 <;> simp [h, h1]
      rw [h3] at hap hW
      clear h3 h1
      go_enter Tryz.func115, Tryz.ntmps115
      go_wp2_with (first | (go_at_call 74; refine (bitR_any _ _).mono ?_; rintro e w' ⟨rfl, rfl⟩) | (go_at_call 147; refine (hW.out _).mono ?_; rintro e w' ⟨rfl, rfl⟩))
      go_ret2
      exact ⟨rfl, _, _, rfl, hap.out⟩
  · have hap := Lib.hid (applied_ok (show applyOp 124 a b = .ok (bit (decide (a ≠ 0 ∨ b ≠ 0))) from rfl) (bit_within _))
    have hW := Lib.hid (withinR_any (bit (decide (a ≠ 0 ∨ b ≠ 0))))
    by_cases h1 : a = 0
    · have d1 : (a != 0) = false := by simp [h1]
      have h3 : decide (a ≠ 0 ∨ b ≠ 0) = (b != 0) := by by_cases h : b = 0 <;> simp [h, h1]
      rw [h3] at hap hW
      clear h3 h1
      go_enter Tryz.func115, Tryz.ntmps115
      go_wp2_with (first | (go_at_call 74; refine (bitR_any _ _).mono ?_; rintro e w' ⟨rfl, rfl⟩) | (go_at_call 147; refine (hW.out _).mono ?_; rintro e w' ⟨rfl, rfl⟩))
      go_ret2
      exact ⟨rfl, _, _, rfl, hap.out⟩
    · have d1 : (a != 0) = true := by simp [h1]
      have h3 : decide (a ≠ 0 ∨ b ≠ 0) = true := by simp [h1]
      rw [h3] at hap hW
      clear h3 h1
      go_enter Tryz.func115, Tryz.ntmps115
      go_wp2_with (first | (go_at_call 74; refine (bitR_any _ _).mono ?_; rintro e w' ⟨rfl, rfl⟩) | (go_at_call 147; refine (hW.out _).mono ?_; rintro e w' ⟨rfl, rfl⟩))
      go_ret2
      exact ⟨rfl, _, _, rfl, hap.out⟩
end Go.Proofs.YtddnmocoaahlfaaGreatDoor
namespace Go.Proofs.YtddnmocoaahlfaaGreatDoor
open Go.RowKit
abbrev rdC (s : ByteArray) (nv vv : Value) (at_ d : Nat) (e : Int) (wr : Bool) : Array Value := #[.string s, nv, vv, .int .i64 at_, .int .i64 d, .int .i64 e, .bool wr]
abbrev rdV (s : ByteArray) (nv vv : Value) (at_ d : Nat) (e : Int) (wr : Bool) : Value := .agg (rdC s nv vv at_ d e wr)
theorem rd_cells {w : World} {R : Nat} {s : ByteArray} {nv vv : Value} {at_ d : Nat} {e : Int} {wr : Bool} (h : Blk w R (rdC s nv vv at_ d e wr) 137) :
    w.cell? ⟨R, 0, none⟩ = some (.string s) ∧ w.cell? ⟨R, 1, none⟩ = some nv ∧ w.cell? ⟨R, 2, none⟩ = some vv ∧ w.cell? ⟨R, 3, none⟩ = some (.int .i64 at_) ∧ w.cell? ⟨R, 4, none⟩ = some (.int .i64 d) ∧ w.cell? ⟨R, 5, none⟩ = some (.int .i64 e) ∧ w.cell? ⟨R, 6, none⟩ = some (.bool wr) :=
  ⟨(h.cell 0).trans rfl, (h.cell 1).trans rfl, (h.cell 2).trans rfl, (h.cell 3).trans rfl, (h.cell 4).trans rfl, (h.cell 5).trans rfl, (h.cell 6).trans rfl⟩
theorem failR_any (s : ByteArray) (na va : Option Addr) (nl nc vl vc : Nat) (at_ d : Nat) (e k : Int) (wr : Bool) (w : World) : Calls Tryz.prog 116 #[rdV s (.slice na nl nc) (.slice va vl vc) at_ d e wr, .int .i64 k] w (fun x w' => Below w.heap.size w w' ∧ x = .returned (rdV s (.slice na nl nc) (.slice va vl vc) at_ d (if e = 0 then k else e) wr)) := by
  by_cases he : e = 0
  · have d1 : (e == 0) = true := by simp [he]
    rw [if_pos he]
    clear he
    go_enter Tryz.func116, Tryz.ntmps116
    go_wp2_with fail
    obtain ⟨w1, hw1⟩ : ∃ w1, w1 = w.alloc (.cells (rdC s (.slice na nl nc) (.slice va vl vc) at_ d k wr) 137) := ⟨_, rfl⟩
    have l1 : Below w.heap.size w w1 := by rw [hw1]; exact (Below.refl _ _).alloc (Nat.le_refl _) _
    have z1 : w1.heap.size = w.heap.size + 1 := by rw [hw1]; simp
    rw [← hw1]
    obtain ⟨w2, hw2⟩ : ∃ w2, w2 = w1.alloc (.cells (rdC s (.slice na nl nc) (.slice va vl vc) at_ d k wr) 137) := ⟨_, rfl⟩
    have l2 : Below w.heap.size w w2 := l1.trans (by rw [hw2]; exact (Below.refl _ _).alloc l1.size _)
    have hB : Blk w2 (w.heap.size + 1) (rdC s (.slice na nl nc) (.slice va vl vc) at_ d k wr) 137 := by rw [hw2, ← z1]; exact Blk.new w1 _ _
    rw [← hw2]
    obtain ⟨y0, y1, y2, y3, y4, y5, y6⟩ := rd_cells hB
    refine ⟨rfl, rdV s (.slice na nl nc) (.slice va vl vc) at_ d k wr, ?_, l2, rfl⟩
    simp [results, Tryz.results116, go_sem, y0, y1, y2, y3, y4, y5, y6]
  · have d1 : (e == 0) = false := by simp [he]
    rw [if_neg he]
    clear he
    go_enter Tryz.func116, Tryz.ntmps116
    go_wp2_with fail
    obtain ⟨w1, hw1⟩ : ∃ w1, w1 = w.alloc (.cells (rdC s (.slice na nl nc) (.slice va vl vc) at_ d e wr) 137) := ⟨_, rfl⟩
    have l1 : Below w.heap.size w w1 := by rw [hw1]; exact (Below.refl _ _).alloc (Nat.le_refl _) _
    have z1 : w1.heap.size = w.heap.size + 1 := by rw [hw1]; simp
    rw [← hw1]
    obtain ⟨w2, hw2⟩ : ∃ w2, w2 = w1.alloc (.cells (rdC s (.slice na nl nc) (.slice va vl vc) at_ d e wr) 137) := ⟨_, rfl⟩
    have l2 : Below w.heap.size w w2 := l1.trans (by rw [hw2]; exact (Below.refl _ _).alloc l1.size _)
    have hB : Blk w2 (w.heap.size + 1) (rdC s (.slice na nl nc) (.slice va vl vc) at_ d e wr) 137 := by rw [hw2, ← z1]; exact Blk.new w1 _ _
    rw [← hw2]
    obtain ⟨y0, y1, y2, y3, y4, y5, y6⟩ := rd_cells hB
    refine ⟨rfl, rdV s (.slice na nl nc) (.slice va vl vc) at_ d e wr, ?_, l2, rfl⟩
    simp [results, Tryz.results116, go_sem, y0, y1, y2, y3, y4, y5, y6]
def isNext (s some_ : ByteArray) (at_ : Nat) (wr : Bool) : Bool := !wr && decide (at_ < s.size) && hasB some_ (byteAt s at_)
theorem isR_any (s some_ : ByteArray) (na va : Option Addr) (nl nc vl vc : Nat) (at_ d : Nat) (e : Int) (wr : Bool) (w : World) (hs : s.size ≤ 65536) (hm : some_.size ≤ 65536) : Calls Tryz.prog 114 #[rdV s (.slice na nl nc) (.slice va vl vc) at_ d e wr, .string some_] w (fun x w' => Below w.heap.size w w' ∧ x = .returned (.bool (isNext s some_ at_ wr))) := by
  obtain ⟨res, hres⟩ : ∃ res, res = isNext s some_ at_ wr := ⟨_, rfl⟩
  rw [← hres]
  have HR := Lib.hid hres
  clear hres
  have HB := Lib.hid ((Below.refl w.heap.size w).alloc (Nat.le_refl _) (.cells (rdC s (.slice na nl nc) (.slice va vl vc) at_ d e wr) 137))
  by_cases hbad : wr = true ∨ s.size ≤ at_
  · have hr : res = false := by
      rw [HR.out]; unfold isNext
      rcases hbad with h | h
      · simp [h]
      · simp [Nat.not_lt.2 h]
    subst hr
    cases wr with
    | true =>
      clear hbad HR
      go_enter Tryz.func114, Tryz.ntmps114
      go_wp2_with fail
      go_ret
      exact ⟨HB.out, rfl⟩
    | false =>
      have hle : s.size ≤ at_ := hbad.resolve_left (by simp)
      have d1 : decide ((at_ : Int) ≥ (s.size : Int)) = true := decide_eq_true (by omega)
      clear hbad HR
      go_enter Tryz.func114, Tryz.ntmps114
      go_wp2_with fail
      go_ret
      exact ⟨HB.out, rfl⟩
  have hwr : wr = false := by cases wr with
    | true => exact absurd (.inl rfl) hbad
    | false => rfl
  subst hwr
  have hlt : at_ < s.size := by omega
  have hr : res = hasB some_ (byteAt s at_) := by rw [HR.out]; unfold isNext; simp [hlt]
  have d1 : decide ((at_ : Int) ≥ (s.size : Int)) = false := decide_eq_false (by omega)
  have hb0 := byteAt_lt hlt
  clear hbad HR
  have HRR := Lib.hid hr
  clear hr
  obtain ⟨w1, hw1⟩ : ∃ w1, w1 = w.alloc (.cells (rdC s (.slice na nl nc) (.slice va vl vc) at_ d e false) 137) := ⟨_, rfl⟩
  have B1 : Blk w1 w.heap.size (rdC s (.slice na nl nc) (.slice va vl vc) at_ d e false) 137 := by rw [hw1]; exact Blk.new w _ _
  rw [← hw1] at HB
  have HW := Lib.hid hw1
  have HB0 := Lib.hid hb0
  clear hw1 hb0
  go_enter Tryz.func114, Tryz.ntmps114
  go_wp2_with fail
  rw [← HW.out]
  obtain ⟨y0, y1, y2, y3, y4, y5, y6⟩ := rd_cells B1
  go_loopw [5] (fun t wr => ∃ m : Nat, m ≤ some_.size ∧ t = .int .i64 m ∧ ((txt some_).drop m).contains (byteAt s at_) = hasB some_ (byteAt s at_) ∧ Below w.heap.size w wr ∧ Blk wr w.heap.size (rdC s (.slice na nl nc) (.slice va vl vc) at_ d e false) 137) (fun t wr => some_.size - (intOf t).toNat)
  case atStart => exact ⟨0, Nat.zero_le _, rfl, rfl, HB.out, B1⟩
  case round =>
    clear y0 y1 y2 y3 y4 y5 y6
    obtain ⟨m, hm2, rfl, hc, hbl, hBw⟩ := hrel
    obtain ⟨y0, y1, y2, y3, y4, y5, y6⟩ := rd_cells hBw
    have HC := Lib.hid hc
    clear hc
    by_cases hl : m < some_.size
    · have hdr := drop_byte hl
      have hby := byteAt_lt hl
      have HD := Lib.hid hdr
      have HY := Lib.hid hby
      clear hdr hby
      by_cases hb : s[at_].toNat = some_[m].toNat
      · have hbb : ((s[at_].toNat : Int) == (some_[m].toNat : Int)) = true := by simp [hb]
        have hcc : hasB some_ (byteAt s at_) = true := by
          have : byteAt some_ m = byteAt s at_ := by rw [HY.out, HB0.out]; exact (UInt8.toNat_inj.1 hb).symm
          rw [← HC.out, HD.out, this]; simp
        have hr : res = true := HRR.out.trans hcc
        subst hr
        clear hcc
        go_wp2_with fail
        go_quiet (fail)
        go_wp2_with fail
        go_ret
        exact ⟨hbl.trans ((drewN_below _ _).mono hbl.size), rfl⟩
      · have hbb : ((s[at_].toNat : Int) == (some_[m].toNat : Int)) = false := by simp; omega
        have HBN := Lib.hid hb
        clear hb
        go_wp2_with fail
        go_quiet (fail)
        go_wp2_with fail
        go_roundw
        case rel =>
          refine ⟨m + 1, by omega, by go_num, ?_, hbl.trans ((drewN_below _ _).mono hbl.size), hBw.drewN _⟩
          have : byteAt some_ m ≠ byteAt s at_ := by rw [HY.out, HB0.out]; intro e; exact HBN.out (by rw [e])
          rw [← HC.out, HD.out]
          simp [Ne.symm this]
        case measure => simp [intOf]; omega
    · have hm' : m = some_.size := by omega
      subst hm'
      have hcc : hasB some_ (byteAt s at_) = false := by rw [← HC.out, drop_end (Nat.le_refl _)]; rfl
      have hr : res = false := HRR.out.trans hcc
      subst hr
      clear hcc
      go_wp2_with fail
      go_ret
      exact ⟨hbl, rfl⟩
def between (lo hi : UInt8) (c : UInt8) : Bool := decide (lo.toNat ≤ c.toNat) && decide (c.toNat ≤ hi.toNat)
theorem runR_any (s : ByteArray) (lo hi : UInt8) (na va : Option Addr) (nl nc vl vc : Nat) (at_ d : Nat) (e : Int) (wr : Bool) (w : World) (hs : s.size ≤ 65536) (ha : at_ ≤ s.size) : Calls Tryz.prog 167 #[rdV s (.slice na nl nc) (.slice va vl vc) at_ d e wr, .int .u8 lo.toNat, .int .u8 hi.toNat] w (fun x w' => Below w.heap.size w w' ∧ x = .returned (.int .i64 ((at_ + tk (between lo hi) s at_ : Nat) : Int))) := by
  obtain ⟨E, hE⟩ : ∃ E, E = at_ + tk (between lo hi) s at_ := ⟨_, rfl⟩
  have hEl := tk_le (p := between lo hi) ha
  rw [← hE] at hEl ⊢
  obtain ⟨w1, hw1⟩ : ∃ w1, w1 = w.alloc (.cells (rdC s (.slice na nl nc) (.slice va vl vc) at_ d e wr) 137) := ⟨_, rfl⟩
  have l1 : Below w.heap.size w w1 := by rw [hw1]; exact (Below.refl _ _).alloc (Nat.le_refl _) _
  have B1 : Blk w1 w.heap.size (rdC s (.slice na nl nc) (.slice va vl vc) at_ d e wr) 137 := by rw [hw1]; exact Blk.new w _ _
  have HW := Lib.hid hw1
  have HE := Lib.hid hE
  clear hw1 hE
  go_enter Tryz.func167, Tryz.ntmps167
  go_wp2_with fail
  rw [← HW.out]
  obtain ⟨y0, y1, y2, y3, y4, y5, y6⟩ := rd_cells B1
  go_loop [7] (fun t => ∃ m : Nat, m ≤ s.size ∧ t = .int .i64 m ∧ m + tk (between lo hi) s m = E) (fun t => s.size - (intOf t).toNat)
  case atStart => exact ⟨at_, ha, rfl, HE.out.symm⟩
  case round =>
    obtain ⟨m, hm2, rfl, hc⟩ := hrel
    have HC := Lib.hid hc
    clear hc
    by_cases hl : m < s.size
    · have hby := byteAt_lt hl
      have HY := Lib.hid hby
      have HS := Lib.hid (fun h => tk_step (p := between lo hi) hl h)
      have HN := Lib.hid (fun h => tk_stop (p := between lo hi) hl h)
      clear hby
      by_cases h1 : lo.toNat ≤ s[m].toNat
      · by_cases h2 : s[m].toNat ≤ hi.toNat
        · have hp : between lo hi (byteAt s m) = true := by rw [HY.out]; simp [between, h1, h2]
          have hrel2 : m + 1 + tk (between lo hi) s (m + 1) = E := by have := HS.out hp; have := HC.out; omega
          have HRL := Lib.hid hrel2
          clear hrel2 hp
          go_wp2_with fail
          go_round
          case rel => exact ⟨m + 1, by omega, by go_num, HRL.out⟩
          case measure => simp [intOf]; omega
        · have hp : between lo hi (byteAt s m) = false := by rw [HY.out]; simp [between, h1, h2]
          have hme : m = E := by have := HN.out hp; have := HC.out; omega
          clear hp HC
          subst hme
          go_wp2_with fail
          go_ret
          exact ⟨l1, rfl⟩
      · have hp : between lo hi (byteAt s m) = false := by rw [HY.out]; simp [between, h1]
        have hme : m = E := by have := HN.out hp; have := HC.out; omega
        clear hp HC
        subst hme
        go_wp2_with fail
        go_ret
        exact ⟨l1, rfl⟩
    · have hm' : m = s.size := by omega
      have hme : m = E := by have := tk_end (p := between lo hi) (s := s) (i := m) (by omega); have := HC.out; omega
      have d1 : decide ((m : Int) < (s.size : Int)) = false := decide_eq_false (by omega)
      subst hme
      clear hm' HC
      go_wp2_with fail
      go_ret
      exact ⟨l1, rfl⟩
end Go.Proofs.YtddnmocoaahlfaaGreatDoor
namespace Go.Proofs.YtddnmocoaahlfaaGreatDoor
open Go.RowKit
structure RdH (w : World) (s : ByteArray) (na : Option Addr) (nl nc : Nat) (va : Option Addr) (vl vc : Nat) (ns : List ByteArray) (vs : List Int) : Prop where
  sr : SRw w (.slice na nl nc) ns
  nr : NRow w (.slice va vl vc) vs
  sz : s.size ≤ 65536
  n1 : nl ≤ 131072
  n2 : vl ≤ 131072
  e1 : ns.length = nl
  e2 : vs.length = vl
theorem RdH.below {w w' : World} {s : ByteArray} {na va : Option Addr} {nl nc vl vc : Nat} {ns : List ByteArray} {vs : List Int} (h : RdH w s na nl nc va vl vc ns vs) (b : Below w.heap.size w w') : RdH w' s na nl nc va vl vc ns vs := ⟨h.sr.below b, h.nr.below b, h.sz, h.n1, h.n2, h.e1, h.e2⟩
def RetLv (w : World) (s : ByteArray) (na : Option Addr) (nl nc : Nat) (va : Option Addr) (vl vc : Nat) (d : Nat) (σ : List UInt8 → Option Int) (e0 : Int) (r : Option (Ex × List UInt8)) (x : Ending) (w' : World) : Prop :=
  Below w.heap.size w w' ∧ match r with
  | none => ∃ (at' d' : Nat) (e' v : Int), x = .returned (.tuple #[rdV s (.slice na nl nc) (.slice va vl vc) at' d' e' true, .int .i64 v])
  | some (y, t) => ∃ (at' : Nat) (e' v : Int), at' ≤ s.size ∧ (txt s).drop at' = t ∧ Note σ e0 y e' v ∧ x = .returned (.tuple #[rdV s (.slice na nl nc) (.slice va vl vc) at' d e' false, .int .i64 v])
def PrimR (d : Nat) (f : Reads) : Prop := ∀ (w : World) (s : ByteArray) (na : Option Addr) (nl nc : Nat) (va : Option Addr) (vl vc : Nat) (ns : List ByteArray) (vs : List Int) (at_ : Nat) (e0 : Int), RdH w s na nl nc va vl vc ns vs → at_ ≤ s.size →
  Calls Tryz.prog 145 #[rdV s (.slice na nl nc) (.slice va vl vc) at_ d e0 false] w (RetLv w s na nl nc va vl vc d (scopeOf ns vs) e0 (f ((txt s).drop at_)))
def SignR (d : Nat) (f : Reads) : Prop := ∀ (w : World) (s : ByteArray) (na : Option Addr) (nl nc : Nat) (va : Option Addr) (vl vc : Nat) (ns : List ByteArray) (vs : List Int) (at_ : Nat) (e0 : Int), RdH w s na nl nc va vl vc ns vs → at_ ≤ s.size →
  Calls Tryz.prog 113 #[rdV s (.slice na nl nc) (.slice va vl vc) at_ d e0 false] w (RetLv w s na nl nc va vl vc d (scopeOf ns vs) e0 (f ((txt s).drop at_)))
def LevelR (d n : Nat) (f : Reads) : Prop := ∀ (w : World) (s : ByteArray) (na : Option Addr) (nl nc : Nat) (va : Option Addr) (vl vc : Nat) (ns : List ByteArray) (vs : List Int) (at_ : Nat) (e0 : Int), RdH w s na nl nc va vl vc ns vs → at_ ≤ s.size →
  Calls Tryz.prog 66 #[rdV s (.slice na nl nc) (.slice va vl vc) at_ d e0 false, .int .i64 n] w (RetLv w s na nl nc va vl vc d (scopeOf ns vs) e0 (f ((txt s).drop at_)))
theorem size137 : (Tryz.prog.info? 137).map (·.size) = some 7 := by kernel_rfl
theorem rd_pre (w : World) (cs : Array Value) : ∃ w2, w2 = (w.alloc (.cells cs 137)).alloc (.cells #[.string ⟨#[]⟩, .slice none 0 0, .slice none 0 0, .int .i64 0, .int .i64 0, .int .i64 0, .bool false] 137) ∧ Below w.heap.size w w2 ∧ Blk w2 w.heap.size cs 137 ∧ Blk w2 (w.heap.size + 1) #[.string ⟨#[]⟩, .slice none 0 0, .slice none 0 0, .int .i64 0, .int .i64 0, .int .i64 0, .bool false] 137 ∧ w2.heap.size = w.heap.size + 2 := by
  have l1 : Below w.heap.size w (w.alloc (.cells cs 137)) := (Below.refl _ _).alloc (Nat.le_refl _) _
  have z1 : (w.alloc (.cells cs 137)).heap.size = w.heap.size + 1 := by simp
  refine ⟨_, rfl, l1.alloc l1.size _, (Blk.new w cs 137).alloc _, ?_, by simp⟩
  have := Blk.new (w.alloc (.cells cs 137)) #[.string ⟨#[]⟩, .slice none 0 0, .slice none 0 0, .int .i64 0, .int .i64 0, .int .i64 0, .bool false] 137
  rw [z1] at this
  exact this
theorem digs_is : ∀ c : UInt8, hasB ⟨#[48, 49, 50, 51, 52, 53, 54, 55, 56, 57]⟩ c = isDig c := by
  intro c
  have h : ∀ i : Fin 256, hasB ⟨#[48, 49, 50, 51, 52, 53, 54, 55, 56, 57]⟩ (UInt8.ofNat i.val) = isDig (UInt8.ofNat i.val) := by decide +kernel
  have := h ⟨c.toNat, by have := c.toNat_lt; omega⟩
  simpa using this
theorem par_is (k c : UInt8) : hasB ⟨#[k]⟩ c = decide (c = k) := by
  unfold hasB
  show List.contains [k] c = _
  by_cases h : c = k <;> simp [h]
theorem let_between : between 97 122 = isLet := rfl
theorem isNext_at {s m : ByteArray} {i : Nat} (h : i < s.size) : isNext s m i false = hasB m (byteAt s i) := by unfold isNext; simp [h]
theorem isNext_end {s m : ByteArray} {i : Nat} (h : s.size ≤ i) (wr : Bool) : isNext s m i wr = false := by unfold isNext; simp [Nat.not_lt.2 h]
theorem isNext_wrong (s m : ByteArray) (i : Nat) : isNext s m i true = false := by unfold isNext; simp
variable {w : World} {s : ByteArray} {na va : Option Addr} {nl nc vl vc : Nat} {ns : List ByteArray} {vs : List Int} {at_ d : Nat} {e0 : Int}
set_option maxHeartbeats 2000000 in
theorem primR_other (h : RdH w s na nl nc va vl vc ns vs) (ha : at_ ≤ s.size) (hd : isDig (byteAt s at_) = false) (hl : isLet (byteAt s at_) = false) (h40 : byteAt s at_ ≠ 40) :
    Calls Tryz.prog 145 #[rdV s (.slice na nl nc) (.slice va vl vc) at_ d e0 false] w (RetLv w s na nl nc va vl vc d (scopeOf ns vs) e0 none) := by
  have n1 : isNext s ⟨#[40]⟩ at_ false = false := by
    unfold isNext; rw [par_is, decide_eq_false h40]; simp
  have n2 : isNext s ⟨#[48, 49, 50, 51, 52, 53, 54, 55, 56, 57]⟩ at_ false = false := by
    unfold isNext; rw [digs_is, hd]; simp
  have n3 : at_ + tk (between 97 122) s at_ = at_ := by
    rcases Nat.lt_or_ge at_ s.size with hlt | hge
    · rw [let_between, tk_stop hlt hl]; rfl
    · rw [tk_end hge]; rfl
  have N1 := Lib.hid n1
  have N2 := Lib.hid n2
  have N3 := Lib.hid n3
  clear n1 n2 n3 hd hl h40
  obtain ⟨w2, hw2, l2, B1, B2, z2⟩ := rd_pre w (rdC s (.slice na nl nc) (.slice va vl vc) at_ d e0 false)
  have HW := Lib.hid hw2
  have hsz := h.sz
  clear hw2
  go_enter Tryz.func145, Tryz.ntmps145
  go_wp2_with fail
  rw [← HW.out]
  refine (isR_any s ⟨#[40]⟩ na va nl nc vl vc at_ d e0 false w2 hsz (by decide)).mono ?_
  rintro x w3 ⟨bw3, rfl⟩
  rw [N1.out]
  have lw3 := l2.trans (bw3.mono l2.size)
  replace B1 := B1.below bw3
  replace B2 := B2.below bw3
  obtain ⟨y0, y1, y2, y3, y4, y5, y6⟩ := rd_cells B1
  go_wp2_with fail
  refine (isR_any s ⟨#[48, 49, 50, 51, 52, 53, 54, 55, 56, 57]⟩ na va nl nc vl vc at_ d e0 false w3 hsz (by decide)).mono ?_
  rintro x w4 ⟨bw4, rfl⟩
  rw [N2.out]
  have lw4 := lw3.trans (bw4.mono lw3.size)
  replace B1 := B1.below bw4
  replace B2 := B2.below bw4
  clear y0 y1 y2 y3 y4 y5 y6
  obtain ⟨y0, y1, y2, y3, y4, y5, y6⟩ := rd_cells B1
  go_wp2_with fail
  refine (runR_any s 97 122 na va nl nc vl vc at_ d e0 false w4 hsz ha).mono ?_
  rintro x w5 ⟨bw5, rfl⟩
  rw [N3.out]
  have lw5 := lw4.trans (bw5.mono lw4.size)
  replace B1 := B1.below bw5
  replace B2 := B2.below bw5
  clear y0 y1 y2 y3 y4 y5 y6
  obtain ⟨y0, y1, y2, y3, y4, y5, y6⟩ := rd_cells B1
  have f3 := B1.frozen 3
  have f6 := B1.frozen 6
  obtain ⟨w6, hw6⟩ : ∃ w6, w6 = World.setCell (World.setCell w5 ⟨w.heap.size, 3, none⟩ (.int .i64 at_)) ⟨w.heap.size, 6, none⟩ (.bool true) := ⟨_, rfl⟩
  have sw6 : Stays (fun k => k = w.heap.size) w5 w6 := by rw [hw6]; exact (Stays.cell ((Stays.cell (.refl _ w5) 3 (.int .i64 at_))) 6 (.bool true))
  have B1w6 : Blk w6 w.heap.size (rdC s (.slice na nl nc) (.slice va vl vc) at_ d e0 true) 137 := by rw [hw6]; exact (Blk.set (Blk.set B1 3 (.int .i64 at_)) 6 (.bool true))
  have B2w6 := B2.stays sw6 (by omega)
  have l6 := lw5.trans (sw6.below lw5.size (fun j hj e => by have e' : j = w.heap.size := e; omega))
  have Hw6 := Lib.hid hw6
  clear hw6
  go_upto_region 25 with fail
  rw [← Hw6.out]
  clear y0 y1 y2 y3 y4 y5 y6 f3 f6
  replace B1 := B1w6
  replace B2 := B2w6
  obtain ⟨y0, y1, y2, y3, y4, y5, y6⟩ := rd_cells B1
  go_wp2_with (refine wpList_unit (o := ⟨none, Op.store 137 _ _, _, _, _, _⟩) rfl rfl (Instr.storeAt 137 _ _) rfl (blk_store (c' := rdC s (.slice na nl nc) (.slice va vl vc) at_ d e0 true) B2 size137 rfl rfl) ?_)
  have hB9 := setRow_heap w6 (w.heap.size + 1) _ (rdC s (.slice na nl nc) (.slice va vl vc) at_ d e0 true) 137 B2
  have hl9 := l6.trans ((setRow_stays w6 (w.heap.size + 1) (rdC s (.slice na nl nc) (.slice va vl vc) at_ d e0 true)).below l6.size (fun j hj e => by have e' : j = w.heap.size + 1 := e; omega))
  obtain ⟨w9, hw9⟩ : ∃ w9, w9 = (w6).setRow (w.heap.size + 1) (rdC s (.slice na nl nc) (.slice va vl vc) at_ d e0 true) := ⟨_, rfl⟩
  rw [← hw9] at hB9 hl9
  rw [← hw9]
  obtain ⟨x0, x1, x2, x3, x4, x5, x6⟩ := rd_cells hB9
  refine ⟨rfl, .tuple #[rdV s (.slice na nl nc) (.slice va vl vc) at_ d e0 true, .int .i64 0], ?_, hl9, at_, d, e0, 0, rfl⟩
  simp [results, Tryz.results145, go_sem, x0, x1, x2, x3, x4, x5, x6]
set_option maxHeartbeats 2000000 in
theorem primR_deep (h : RdH w s na nl nc va vl vc ns vs) (ha : at_ < s.size) (h40 : byteAt s at_ = 40) :
    Calls Tryz.prog 145 #[rdV s (.slice na nl nc) (.slice va vl vc) at_ 16 e0 false] w (RetLv w s na nl nc va vl vc 16 (scopeOf ns vs) e0 none) := by
  have n1 : isNext s ⟨#[40]⟩ at_ false = true := by
    rw [isNext_at ha, par_is, decide_eq_true h40]
  have N1 := Lib.hid n1
  have hat : at_ + 1 ≤ 65537 := by have := h.sz; omega
  clear n1 h40
  obtain ⟨w2, hw2, l2, B1, B2, z2⟩ := rd_pre w (rdC s (.slice na nl nc) (.slice va vl vc) at_ 16 e0 false)
  have HW := Lib.hid hw2
  have hsz := h.sz
  clear hw2
  go_enter Tryz.func145, Tryz.ntmps145
  go_wp2_with fail
  rw [← HW.out]
  refine (isR_any s ⟨#[40]⟩ na va nl nc vl vc at_ 16 e0 false w2 hsz (by decide)).mono ?_
  rintro x w3 ⟨bw3, rfl⟩
  rw [N1.out]
  have lw3 := l2.trans (bw3.mono l2.size)
  replace B1 := B1.below bw3
  replace B2 := B2.below bw3
  obtain ⟨y0, y1, y2, y3, y4, y5, y6⟩ := rd_cells B1
  have f3 := B1.frozen 3
  have f4 := B1.frozen 4
  have f6 := B1.frozen 6
  obtain ⟨w6, hw6⟩ : ∃ w6, w6 = World.setCell (World.setCell (World.setCell w3 ⟨w.heap.size, 3, none⟩ (.int .i64 ((at_ : Int) + 1))) ⟨w.heap.size, 4, none⟩ (.int .i64 17)) ⟨w.heap.size, 6, none⟩ (.bool true) := ⟨_, rfl⟩
  have sw6 : Stays (fun k => k = w.heap.size) w3 w6 := by rw [hw6]; exact (Stays.cell ((Stays.cell ((Stays.cell (.refl _ w3) 3 (.int .i64 ((at_ : Int) + 1)))) 4 (.int .i64 17))) 6 (.bool true))
  have B1w6 : Blk w6 w.heap.size (rdC s (.slice na nl nc) (.slice va vl vc) (at_ + 1) 17 e0 true) 137 := by rw [hw6]; exact (Blk.set (Blk.set (Blk.set B1 3 (.int .i64 ((at_ : Int) + 1))) 4 (.int .i64 17)) 6 (.bool true))
  have B2w6 := B2.stays sw6 (by omega)
  have l6 := lw3.trans (sw6.below lw3.size (fun j hj e => by have e' : j = w.heap.size := e; omega))
  have Hw6 := Lib.hid hw6
  clear hw6
  go_upto_region 6 with fail
  rw [← Hw6.out]
  clear y0 y1 y2 y3 y4 y5 y6 f3 f4 f6
  replace B1 := B1w6
  replace B2 := B2w6
  obtain ⟨y0, y1, y2, y3, y4, y5, y6⟩ := rd_cells B1
  go_wp2_with (refine wpList_unit (o := ⟨none, Op.store 137 _ _, _, _, _, _⟩) rfl rfl (Instr.storeAt 137 _ _) rfl (blk_store (c' := rdC s (.slice na nl nc) (.slice va vl vc) (at_ + 1) 17 e0 true) B2 size137 rfl rfl) ?_)
  have hB9 := setRow_heap w6 (w.heap.size + 1) _ (rdC s (.slice na nl nc) (.slice va vl vc) (at_ + 1) 17 e0 true) 137 B2
  have hl9 := l6.trans ((setRow_stays w6 (w.heap.size + 1) (rdC s (.slice na nl nc) (.slice va vl vc) (at_ + 1) 17 e0 true)).below l6.size (fun j hj e => by have e' : j = w.heap.size + 1 := e; omega))
  obtain ⟨w9, hw9⟩ : ∃ w9, w9 = (w6).setRow (w.heap.size + 1) (rdC s (.slice na nl nc) (.slice va vl vc) (at_ + 1) 17 e0 true) := ⟨_, rfl⟩
  rw [← hw9] at hB9 hl9
  rw [← hw9]
  obtain ⟨x0, x1, x2, x3, x4, x5, x6⟩ := rd_cells hB9
  refine ⟨rfl, .tuple #[rdV s (.slice na nl nc) (.slice va vl vc) (at_ + 1) 17 e0 true, .int .i64 0], ?_, hl9, at_ + 1, 17, e0, 0, rfl⟩
  simp [results, Tryz.results145, go_sem, x0, x1, x2, x3, x4, x5, x6]
def openE (g : Reads) (r : List UInt8) : Option (Ex × List UInt8) := match g r with | some (x, 41 :: t) => some (x, t) | _ => none
theorem primR_open (h : RdH w s na nl nc va vl vc ns vs) (ha : at_ < s.size) (h40 : byteAt s at_ = 40) (hd16 : d < 16) {g : Reads} (hg : LevelR (d + 1) 0 g) :
    Calls Tryz.prog 145 #[rdV s (.slice na nl nc) (.slice va vl vc) at_ d e0 false] w (RetLv w s na nl nc va vl vc d (scopeOf ns vs) e0 (openE g ((txt s).drop (at_ + 1)))) := by
  have n1 : isNext s ⟨#[40]⟩ at_ false = true := by
    rw [isNext_at ha, par_is, decide_eq_true h40]
  have N1 := Lib.hid n1
  have hat : at_ + 1 ≤ 65537 := by have := h.sz; omega
  have hd17 : d + 1 ≤ 16 := by omega
  obtain ⟨res, hres⟩ : ∃ res, res = openE g ((txt s).drop (at_ + 1)) := ⟨_, rfl⟩
  rw [← hres]
  have HRES := Lib.hid hres
  have HG := Lib.hid hg
  have HH := Lib.hid h
  clear n1 h40 hres hg
  obtain ⟨w2, hw2, l2, B1, B2, z2⟩ := rd_pre w (rdC s (.slice na nl nc) (.slice va vl vc) at_ d e0 false)
  have HW := Lib.hid hw2
  have hsz := h.sz
  clear hw2
  go_enter Tryz.func145, Tryz.ntmps145
  go_wp2_with fail
  rw [← HW.out]
  refine (isR_any s ⟨#[40]⟩ na va nl nc vl vc at_ d e0 false w2 hsz (by decide)).mono ?_
  rintro x w3 ⟨bw3, rfl⟩
  rw [N1.out]
  have lw3 := l2.trans (bw3.mono l2.size)
  replace B1 := B1.below bw3
  replace B2 := B2.below bw3
  obtain ⟨y0, y1, y2, y3, y4, y5, y6⟩ := rd_cells B1
  have f3 := B1.frozen 3
  have f4 := B1.frozen 4
  obtain ⟨w4, hw4⟩ : ∃ w4, w4 = World.setCell (World.setCell w3 ⟨w.heap.size, 3, none⟩ (.int .i64 ((at_ : Int) + 1))) ⟨w.heap.size, 4, none⟩ (.int .i64 ((d : Int) + 1)) := ⟨_, rfl⟩
  have sw4 : Stays (fun k => k = w.heap.size) w3 w4 := by rw [hw4]; exact (Stays.cell ((Stays.cell (.refl _ w3) 3 (.int .i64 ((at_ : Int) + 1)))) 4 (.int .i64 ((d : Int) + 1)))
  have B1w4 : Blk w4 w.heap.size (rdC s (.slice na nl nc) (.slice va vl vc) (at_ + 1) (d + 1) e0 false) 137 := by rw [hw4]; exact (Blk.set (Blk.set B1 3 (.int .i64 ((at_ : Int) + 1))) 4 (.int .i64 ((d : Int) + 1)))
  have B2w4 := B2.stays sw4 (by omega)
  have l4 := lw3.trans (sw4.below lw3.size (fun j hj e => by have e' : j = w.heap.size := e; omega))
  have Hw4 := Lib.hid hw4
  clear hw4
  go_upto_region 4 with fail
  rw [← Hw4.out]
  clear y0 y1 y2 y3 y4 y5 y6 f3 f4
  replace B1 := B1w4
  replace B2 := B2w4
  obtain ⟨D, hD⟩ : ∃ D, D = d + 1 := ⟨_, rfl⟩
  rw [← hD] at B1 HG
  have hdd : (D : Int) - 1 = (d : Int) := by omega
  clear hD
  obtain ⟨y0, y1, y2, y3, y4, y5, y6⟩ := rd_cells B1
  go_wp2_with fail
  refine (HG.out w4 s na nl nc va vl vc ns vs (at_ + 1) e0 (HH.out.below l4) (by omega)).mono ?_
  rintro x w5 ⟨b5, hx⟩
  have l5 := l4.trans (b5.mono l4.size)
  replace B1 := B1.below b5
  replace B2 := B2.below b5
  have hz5 := b5.size
  clear y0 y1 y2 y3 y4 y5 y6 h
  cases hg2 : g ((txt s).drop (at_ + 1)) with
  | none =>
    rw [hg2] at hx
    obtain ⟨at2, d2, e2, v2, rfl⟩ := hx
    have hr : res = none := by rw [HRES.out]; unfold openE; rw [hg2]
    subst hr
    clear hg2 HRES
    obtain ⟨w6, hw6⟩ : ∃ w6, w6 = w5.alloc (.cells (rdC s (.slice na nl nc) (.slice va vl vc) at2 d2 e2 true) 137) := ⟨_, rfl⟩
    have b6 : Below w5.heap.size w5 w6 := by rw [hw6]; exact (Below.refl _ _).alloc (Nat.le_refl _) _
    have BN : Blk w6 w5.heap.size (rdC s (.slice na nl nc) (.slice va vl vc) at2 d2 e2 true) 137 := by rw [hw6]; exact Blk.new _ _ _
    have l6 := l5.trans (b6.mono l5.size)
    replace B1 := B1.below b6
    replace B2 := B2.below b6
    have hz6 : w6.heap.size = w5.heap.size + 1 := by rw [hw6]; simp
    have HW6 := Lib.hid hw6
    clear hw6
    go_upto_region 8 with fail
    rw [← HW6.out]
    obtain ⟨y0, y1, y2, y3, y4, y5, y6⟩ := rd_cells BN
    go_upto_region 9 with (refine wpList_unit (o := ⟨none, Op.store 137 _ _, _, _, _, _⟩) rfl rfl (Instr.storeAt 137 _ _) rfl (blk_store (c' := rdC s (.slice na nl nc) (.slice va vl vc) at2 d2 e2 true) B1 size137 rfl rfl) ?_)
    obtain ⟨w7, hw7⟩ : ∃ w7, w7 = w6.setRow w.heap.size (rdC s (.slice na nl nc) (.slice va vl vc) at2 d2 e2 true) := ⟨_, rfl⟩
    have s7 := setRow_stays w6 w.heap.size (rdC s (.slice na nl nc) (.slice va vl vc) at2 d2 e2 true)
    have B17 := setRow_heap w6 w.heap.size _ (rdC s (.slice na nl nc) (.slice va vl vc) at2 d2 e2 true) 137 B1
    rw [← hw7] at s7 B17
    rw [← hw7]
    have l7 := l6.trans (s7.below l6.size (fun j hj e => by have e' : j = w.heap.size := e; omega))
    replace B2 := B2.stays s7 (by omega)
    replace B1 := B17
    clear y0 y1 y2 y3 y4 y5 y6 hw7 B17 s7 BN
    obtain ⟨y0, y1, y2, y3, y4, y5, y6⟩ := rd_cells B1
    go_wp2_with fail
    refine (isR_any s ⟨#[41]⟩ na va nl nc vl vc at2 d2 e2 true w7 hsz (by decide)).mono ?_
    rintro x w8 ⟨bw8, rfl⟩
    rw [isNext_wrong s _ _]
    have lw8 := l7.trans (bw8.mono l7.size)
    replace B1 := B1.below bw8
    replace B2 := B2.below bw8
    clear y0 y1 y2 y3 y4 y5 y6
    obtain ⟨y0, y1, y2, y3, y4, y5, y6⟩ := rd_cells B1
    have f6 := B1.frozen 6
    obtain ⟨wa, hwa⟩ : ∃ wa, wa = World.setCell w8 ⟨w.heap.size, 6, none⟩ (.bool true) := ⟨_, rfl⟩
    have swa : Stays (fun k => k = w.heap.size) w8 wa := by rw [hwa]; exact (Stays.cell (.refl _ w8) 6 (.bool true))
    have B1wa : Blk wa w.heap.size (rdC s (.slice na nl nc) (.slice va vl vc) at2 d2 e2 true) 137 := by rw [hwa]; exact (Blk.set B1 6 (.bool true))
    have B2wa := B2.stays swa (by omega)
    have la := lw8.trans (swa.below lw8.size (fun j hj e => by have e' : j = w.heap.size := e; omega))
    have Hwa := Lib.hid hwa
    clear hwa
    go_upto_region 11 with fail
    rw [← Hwa.out]
    clear y0 y1 y2 y3 y4 y5 y6 f6
    replace B1 := B1wa
    replace B2 := B2wa
    obtain ⟨y0, y1, y2, y3, y4, y5, y6⟩ := rd_cells B1
    go_wp2_with (refine wpList_unit (o := ⟨none, Op.store 137 _ _, _, _, _, _⟩) rfl rfl (Instr.storeAt 137 _ _) rfl (blk_store (c' := rdC s (.slice na nl nc) (.slice va vl vc) at2 d2 e2 true) B2 size137 rfl rfl) ?_)
    have hB9 := setRow_heap wa (w.heap.size + 1) _ (rdC s (.slice na nl nc) (.slice va vl vc) at2 d2 e2 true) 137 B2
    have hl9 := la.trans ((setRow_stays wa (w.heap.size + 1) (rdC s (.slice na nl nc) (.slice va vl vc) at2 d2 e2 true)).below la.size (fun j hj e => by have e' : j = w.heap.size + 1 := e; omega))
    obtain ⟨w9, hw9⟩ : ∃ w9, w9 = (wa).setRow (w.heap.size + 1) (rdC s (.slice na nl nc) (.slice va vl vc) at2 d2 e2 true) := ⟨_, rfl⟩
    rw [← hw9] at hB9 hl9
    rw [← hw9]
    obtain ⟨x0, x1, x2, x3, x4, x5, x6⟩ := rd_cells hB9
    refine ⟨rfl, .tuple #[rdV s (.slice na nl nc) (.slice va vl vc) at2 d2 e2 true, .int .i64 0], ?_, hl9, at2, d2, e2, 0, rfl⟩
    simp [results, Tryz.results145, go_sem, x0, x1, x2, x3, x4, x5, x6]
  | some p =>
    obtain ⟨y, t⟩ := p
    rw [hg2] at hx
    obtain ⟨at2, e2, v2, hle2, hdr2, hnote, rfl⟩ := hx
    by_cases h41 : byteAt s at2 = 41 ∧ at2 < s.size
    · have ht : t = 41 :: (txt s).drop (at2 + 1) := by rw [← hdr2, drop_byte h41.2, h41.1]
      have hr : res = some (y, (txt s).drop (at2 + 1)) := by rw [HRES.out]; unfold openE; rw [hg2, ht]; rfl
      subst hr
      have n2 : isNext s ⟨#[41]⟩ at2 false = true := by rw [isNext_at h41.2, par_is, decide_eq_true h41.1]
      have hlt2 := h41.2
      have N2 := Lib.hid n2
      have HNT := Lib.hid hnote
      have hat2 : at2 + 1 ≤ 65537 := by omega
      clear n2 hg2 HRES h41 hdr2 ht hnote
      obtain ⟨w6, hw6⟩ : ∃ w6, w6 = w5.alloc (.cells (rdC s (.slice na nl nc) (.slice va vl vc) at2 D e2 false) 137) := ⟨_, rfl⟩
      have b6 : Below w5.heap.size w5 w6 := by rw [hw6]; exact (Below.refl _ _).alloc (Nat.le_refl _) _
      have BN : Blk w6 w5.heap.size (rdC s (.slice na nl nc) (.slice va vl vc) at2 D e2 false) 137 := by rw [hw6]; exact Blk.new _ _ _
      have l6 := l5.trans (b6.mono l5.size)
      replace B1 := B1.below b6
      replace B2 := B2.below b6
      have hz6 : w6.heap.size = w5.heap.size + 1 := by rw [hw6]; simp
      have HW6 := Lib.hid hw6
      clear hw6
      go_upto_region 8 with fail
      rw [← HW6.out]
      obtain ⟨y0, y1, y2, y3, y4, y5, y6⟩ := rd_cells BN
      go_upto_region 9 with (refine wpList_unit (o := ⟨none, Op.store 137 _ _, _, _, _, _⟩) rfl rfl (Instr.storeAt 137 _ _) rfl (blk_store (c' := rdC s (.slice na nl nc) (.slice va vl vc) at2 D e2 false) B1 size137 rfl rfl) ?_)
      obtain ⟨w7, hw7⟩ : ∃ w7, w7 = w6.setRow w.heap.size (rdC s (.slice na nl nc) (.slice va vl vc) at2 D e2 false) := ⟨_, rfl⟩
      have s7 := setRow_stays w6 w.heap.size (rdC s (.slice na nl nc) (.slice va vl vc) at2 D e2 false)
      have B17 := setRow_heap w6 w.heap.size _ (rdC s (.slice na nl nc) (.slice va vl vc) at2 D e2 false) 137 B1
      rw [← hw7] at s7 B17
      rw [← hw7]
      have l7 := l6.trans (s7.below l6.size (fun j hj e => by have e' : j = w.heap.size := e; omega))
      replace B2 := B2.stays s7 (by omega)
      replace B1 := B17
      clear y0 y1 y2 y3 y4 y5 y6 hw7 B17 s7 BN
      obtain ⟨y0, y1, y2, y3, y4, y5, y6⟩ := rd_cells B1
      go_wp2_with fail
      refine (isR_any s ⟨#[41]⟩ na va nl nc vl vc at2 D e2 false w7 hsz (by decide)).mono ?_
      rintro x w8 ⟨bw8, rfl⟩
      rw [N2.out]
      have lw8 := l7.trans (bw8.mono l7.size)
      replace B1 := B1.below bw8
      replace B2 := B2.below bw8
      clear y0 y1 y2 y3 y4 y5 y6
      obtain ⟨y0, y1, y2, y3, y4, y5, y6⟩ := rd_cells B1
      have f3 := B1.frozen 3
      have f4 := B1.frozen 4
      obtain ⟨wa, hwa⟩ : ∃ wa, wa = World.setCell (World.setCell w8 ⟨w.heap.size, 3, none⟩ (.int .i64 ((at2 : Int) + 1))) ⟨w.heap.size, 4, none⟩ (.int .i64 d) := ⟨_, rfl⟩
      have swa : Stays (fun k => k = w.heap.size) w8 wa := by rw [hwa]; exact (Stays.cell ((Stays.cell (.refl _ w8) 3 (.int .i64 ((at2 : Int) + 1)))) 4 (.int .i64 d))
      have B1wa : Blk wa w.heap.size (rdC s (.slice na nl nc) (.slice va vl vc) (at2 + 1) d e2 false) 137 := by rw [hwa]; exact (Blk.set (Blk.set B1 3 (.int .i64 ((at2 : Int) + 1))) 4 (.int .i64 d))
      have B2wa := B2.stays swa (by omega)
      have la := lw8.trans (swa.below lw8.size (fun j hj e => by have e' : j = w.heap.size := e; omega))
      have Hwa := Lib.hid hwa
      clear hwa
      go_upto_region 14 with fail
      rw [← Hwa.out]
      clear y0 y1 y2 y3 y4 y5 y6 f3 f4
      replace B1 := B1wa
      replace B2 := B2wa
      obtain ⟨y0, y1, y2, y3, y4, y5, y6⟩ := rd_cells B1
      go_wp2_with (refine wpList_unit (o := ⟨none, Op.store 137 _ _, _, _, _, _⟩) rfl rfl (Instr.storeAt 137 _ _) rfl (blk_store (c' := rdC s (.slice na nl nc) (.slice va vl vc) (at2 + 1) d e2 false) B2 size137 rfl rfl) ?_)
      have hB9 := setRow_heap wa (w.heap.size + 1) _ (rdC s (.slice na nl nc) (.slice va vl vc) (at2 + 1) d e2 false) 137 B2
      have hl9 := la.trans ((setRow_stays wa (w.heap.size + 1) (rdC s (.slice na nl nc) (.slice va vl vc) (at2 + 1) d e2 false)).below la.size (fun j hj e => by have e' : j = w.heap.size + 1 := e; omega))
      obtain ⟨w9, hw9⟩ : ∃ w9, w9 = (wa).setRow (w.heap.size + 1) (rdC s (.slice na nl nc) (.slice va vl vc) (at2 + 1) d e2 false) := ⟨_, rfl⟩
      rw [← hw9] at hB9 hl9
      rw [← hw9]
      obtain ⟨x0, x1, x2, x3, x4, x5, x6⟩ := rd_cells hB9
      refine ⟨rfl, .tuple #[rdV s (.slice na nl nc) (.slice va vl vc) (at2 + 1) d e2 false, .int .i64 v2], ?_, hl9, at2 + 1, e2, v2, by omega, rfl, HNT.out, rfl⟩
      simp [results, Tryz.results145, go_sem, x0, x1, x2, x3, x4, x5, x6]
    · have hr : res = none := by
        rw [HRES.out]; unfold openE; rw [hg2]
        rcases Nat.lt_or_ge at2 s.size with hlt | hge
        · rw [← hdr2, drop_byte hlt]
          have hne : byteAt s at2 ≠ 41 := fun e => h41 ⟨e, hlt⟩
          generalize byteAt s at2 = c at hne
          generalize (txt s).drop (at2 + 1) = u
          split
          · rename_i heq
            injection heq with heq
            injection heq with _ heq
            injection heq with heq _
            exact absurd heq hne
          · rfl
        · rw [← hdr2, drop_end hge]
      subst hr
      have n2 : isNext s ⟨#[41]⟩ at2 false = false := by
        rcases Nat.lt_or_ge at2 s.size with hlt | hge
        · rw [isNext_at hlt, par_is]; exact decide_eq_false fun e => h41 ⟨e, hlt⟩
        · exact isNext_end hge _
      have N2 := Lib.hid n2
      clear n2 hg2 HRES h41 hdr2 hnote
      obtain ⟨w6, hw6⟩ : ∃ w6, w6 = w5.alloc (.cells (rdC s (.slice na nl nc) (.slice va vl vc) at2 D e2 false) 137) := ⟨_, rfl⟩
      have b6 : Below w5.heap.size w5 w6 := by rw [hw6]; exact (Below.refl _ _).alloc (Nat.le_refl _) _
      have BN : Blk w6 w5.heap.size (rdC s (.slice na nl nc) (.slice va vl vc) at2 D e2 false) 137 := by rw [hw6]; exact Blk.new _ _ _
      have l6 := l5.trans (b6.mono l5.size)
      replace B1 := B1.below b6
      replace B2 := B2.below b6
      have hz6 : w6.heap.size = w5.heap.size + 1 := by rw [hw6]; simp
      have HW6 := Lib.hid hw6
      clear hw6
      go_upto_region 8 with fail
      rw [← HW6.out]
      obtain ⟨y0, y1, y2, y3, y4, y5, y6⟩ := rd_cells BN
      go_upto_region 9 with (refine wpList_unit (o := ⟨none, Op.store 137 _ _, _, _, _, _⟩) rfl rfl (Instr.storeAt 137 _ _) rfl (blk_store (c' := rdC s (.slice na nl nc) (.slice va vl vc) at2 D e2 false) B1 size137 rfl rfl) ?_)
      obtain ⟨w7, hw7⟩ : ∃ w7, w7 = w6.setRow w.heap.size (rdC s (.slice na nl nc) (.slice va vl vc) at2 D e2 false) := ⟨_, rfl⟩
      have s7 := setRow_stays w6 w.heap.size (rdC s (.slice na nl nc) (.slice va vl vc) at2 D e2 false)
      have B17 := setRow_heap w6 w.heap.size _ (rdC s (.slice na nl nc) (.slice va vl vc) at2 D e2 false) 137 B1
      rw [← hw7] at s7 B17
      rw [← hw7]
      have l7 := l6.trans (s7.below l6.size (fun j hj e => by have e' : j = w.heap.size := e; omega))
      replace B2 := B2.stays s7 (by omega)
      replace B1 := B17
      clear y0 y1 y2 y3 y4 y5 y6 hw7 B17 s7 BN
      obtain ⟨y0, y1, y2, y3, y4, y5, y6⟩ := rd_cells B1
      go_wp2_with fail
      refine (isR_any s ⟨#[41]⟩ na va nl nc vl vc at2 D e2 false w7 hsz (by decide)).mono ?_
      rintro x w8 ⟨bw8, rfl⟩
      rw [N2.out]
      have lw8 := l7.trans (bw8.mono l7.size)
      replace B1 := B1.below bw8
      replace B2 := B2.below bw8
      clear y0 y1 y2 y3 y4 y5 y6
      obtain ⟨y0, y1, y2, y3, y4, y5, y6⟩ := rd_cells B1
      have f6 := B1.frozen 6
      obtain ⟨wa, hwa⟩ : ∃ wa, wa = World.setCell w8 ⟨w.heap.size, 6, none⟩ (.bool true) := ⟨_, rfl⟩
      have swa : Stays (fun k => k = w.heap.size) w8 wa := by rw [hwa]; exact (Stays.cell (.refl _ w8) 6 (.bool true))
      have B1wa : Blk wa w.heap.size (rdC s (.slice na nl nc) (.slice va vl vc) at2 D e2 true) 137 := by rw [hwa]; exact (Blk.set B1 6 (.bool true))
      have B2wa := B2.stays swa (by omega)
      have la := lw8.trans (swa.below lw8.size (fun j hj e => by have e' : j = w.heap.size := e; omega))
      have Hwa := Lib.hid hwa
      clear hwa
      go_upto_region 11 with fail
      rw [← Hwa.out]
      clear y0 y1 y2 y3 y4 y5 y6 f6
      replace B1 := B1wa
      replace B2 := B2wa
      obtain ⟨y0, y1, y2, y3, y4, y5, y6⟩ := rd_cells B1
      go_wp2_with (refine wpList_unit (o := ⟨none, Op.store 137 _ _, _, _, _, _⟩) rfl rfl (Instr.storeAt 137 _ _) rfl (blk_store (c' := rdC s (.slice na nl nc) (.slice va vl vc) at2 D e2 true) B2 size137 rfl rfl) ?_)
      have hB9 := setRow_heap wa (w.heap.size + 1) _ (rdC s (.slice na nl nc) (.slice va vl vc) at2 D e2 true) 137 B2
      have hl9 := la.trans ((setRow_stays wa (w.heap.size + 1) (rdC s (.slice na nl nc) (.slice va vl vc) at2 D e2 true)).below la.size (fun j hj e => by have e' : j = w.heap.size + 1 := e; omega))
      obtain ⟨w9, hw9⟩ : ∃ w9, w9 = (wa).setRow (w.heap.size + 1) (rdC s (.slice na nl nc) (.slice va vl vc) at2 D e2 true) := ⟨_, rfl⟩
      rw [← hw9] at hB9 hl9
      rw [← hw9]
      obtain ⟨x0, x1, x2, x3, x4, x5, x6⟩ := rd_cells hB9
      refine ⟨rfl, .tuple #[rdV s (.slice na nl nc) (.slice va vl vc) at2 D e2 true, .int .i64 0], ?_, hl9, at2, D, e2, 0, rfl⟩
      simp [results, Tryz.results145, go_sem, x0, x1, x2, x3, x4, x5, x6]
end Go.Proofs.YtddnmocoaahlfaaGreatDoor
namespace Go.Proofs.YtddnmocoaahlfaaGreatDoor
open Go.RowKit
variable {w : World} {s : ByteArray} {na va : Option Addr} {nl nc vl vc : Nat} {ns : List ByteArray} {vs : List Int} {at_ d : Nat} {e0 : Int}
theorem let_dig_par {c : UInt8} (h : isLet c = true) : isDig c = false ∧ c ≠ 40 := by
  have e : isLet c = (decide (97 ≤ c.toNat) && decide (c.toNat ≤ 122)) := rfl
  have e2 : isDig c = (decide (48 ≤ c.toNat) && decide (c.toNat ≤ 57)) := rfl
  rw [e] at h
  simp only [Bool.and_eq_true, decide_eq_true_eq] at h
  refine ⟨?_, ?_⟩
  · rw [e2]; simp only [Bool.and_eq_false_iff, decide_eq_false_iff_not]; omega
  · rintro rfl; exact absurd h.1 (by decide)
theorem dig_not_par {c : UInt8} (h : isDig c = true) : c ≠ 40 := by rintro rfl; exact absurd h (by decide)
theorem scope_step (ns : List ByteArray) (vs : List Int) (k : Nat) (hk : k < ns.length) (hv : k < vs.length) (t : List UInt8) : scopeUp ns vs (k + 1) t = if t = txt ns[k] then some vs[k] else scopeUp ns vs k t := by
  show upd (scopeUp ns vs k) (txt ns[k]!) vs[k]! t = _
  unfold upd
  rw [getElem!_pos ns k hk, getElem!_pos vs k hv]
def numE (l rest : List UInt8) : Option (Ex × List UInt8) := if (l.headD 0 = 48 ∧ 1 < l.length) ∨ 9007199254740992 < numOf l then none else some (.num (numOf l), rest)
set_option maxHeartbeats 4000000 in
theorem primR_num (h : RdH w s na nl nc va vl vc ns vs) (ha : at_ < s.size) (hd : isDig (byteAt s at_) = true) :
    Calls Tryz.prog 145 #[rdV s (.slice na nl nc) (.slice va vl vc) at_ d e0 false] w (RetLv w s na nl nc va vl vc d (scopeOf ns vs) e0 (numE (taken isDig ((txt s).drop at_)).1 (taken isDig ((txt s).drop at_)).2)) := by
  have n1 : isNext s ⟨#[40]⟩ at_ false = false := by
    rw [isNext_at ha, par_is, decide_eq_false (dig_not_par hd)]
  have n2 : isNext s ⟨#[48, 49, 50, 51, 52, 53, 54, 55, 56, 57]⟩ at_ false = true := by
    rw [isNext_at ha, digs_is, hd]
  have htk := tk_le (p := isDig) (Nat.le_of_lt ha)
  have hpos : 0 < tk isDig s at_ := by rw [tk_step ha hd]; omega
  have hrest := tk_rest isDig s at_
  obtain ⟨E, hE⟩ : ∃ E, E = at_ + tk isDig s at_ := ⟨_, rfl⟩
  have hwt := tk_txt isDig s at_
  rw [← hE] at htk hrest hwt
  obtain ⟨wd, hwd⟩ : ∃ wd, wd = s.extract at_ E := ⟨_, rfl⟩
  rw [← hwd] at hwt
  have hund := undec_digits (d := txt wd) (by rw [hwt]; exact List.all_eq_true.1 List.all_takeWhile) (by
    rw [hwt]; unfold taken; rw [drop_byte ha]; simp [hd])
  obtain ⟨res, hres⟩ : ∃ res, res = numE (txt wd) ((txt s).drop E) := ⟨_, rfl⟩
  have hrr : numE (taken isDig ((txt s).drop at_)).1 (taken isDig ((txt s).drop at_)).2 = res := by rw [hres, hwt, hrest]
  rw [hrr]
  have N1 := Lib.hid n1
  have N2 := Lib.hid n2
  have N3 := Lib.hid (show at_ + tk (between 48 57) s at_ = E from hE.symm)
  have HRES := Lib.hid hres
  have HU := Lib.hid hund
  have HRD := Lib.hid (read_any wd)
  have hle : at_ ≤ E := by omega
  have ha' : at_ ≤ s.size := by omega
  have HWD := Lib.hid hwd.symm
  clear n1 n2 hres hund hrr hwt hrest hE hpos hd hwd
  obtain ⟨w2, hw2, l2, B1, B2, z2⟩ := rd_pre w (rdC s (.slice na nl nc) (.slice va vl vc) at_ d e0 false)
  have HW := Lib.hid hw2
  have hsz := h.sz
  clear hw2
  go_enter Tryz.func145, Tryz.ntmps145
  go_wp2_with fail
  rw [← HW.out]
  refine (isR_any s ⟨#[40]⟩ na va nl nc vl vc at_ d e0 false w2 hsz (by decide)).mono ?_
  rintro x w3 ⟨bw3, rfl⟩
  rw [N1.out]
  have lw3 := l2.trans (bw3.mono l2.size)
  replace B1 := B1.below bw3
  replace B2 := B2.below bw3
  obtain ⟨y0, y1, y2, y3, y4, y5, y6⟩ := rd_cells B1
  go_wp2_with fail
  refine (isR_any s ⟨#[48, 49, 50, 51, 52, 53, 54, 55, 56, 57]⟩ na va nl nc vl vc at_ d e0 false w3 hsz (by decide)).mono ?_
  rintro x w4 ⟨bw4, rfl⟩
  rw [N2.out]
  have lw4 := lw3.trans (bw4.mono lw3.size)
  replace B1 := B1.below bw4
  replace B2 := B2.below bw4
  clear y0 y1 y2 y3 y4 y5 y6
  obtain ⟨y0, y1, y2, y3, y4, y5, y6⟩ := rd_cells B1
  go_wp2_with fail
  refine (runR_any s 48 57 na va nl nc vl vc at_ d e0 false w4 hsz ha').mono ?_
  rintro x w5 ⟨bw5, rfl⟩
  rw [N3.out]
  have lw5 := lw4.trans (bw5.mono lw4.size)
  replace B1 := B1.below bw5
  replace B2 := B2.below bw5
  clear y0 y1 y2 y3 y4 y5 y6
  obtain ⟨y0, y1, y2, y3, y4, y5, y6⟩ := rd_cells B1
  have f3 := B1.frozen 3
  obtain ⟨w6, hw6⟩ : ∃ w6, w6 = World.setCell w5 ⟨w.heap.size, 3, none⟩ (.int .i64 E) := ⟨_, rfl⟩
  have sw6 : Stays (fun k => k = w.heap.size) w5 w6 := by rw [hw6]; exact (Stays.cell (.refl _ w5) 3 (.int .i64 E))
  have B1w6 : Blk w6 w.heap.size (rdC s (.slice na nl nc) (.slice va vl vc) E d e0 false) 137 := by rw [hw6]; exact (Blk.set B1 3 (.int .i64 E))
  have B2w6 := B2.stays sw6 (by omega)
  have l6 := lw5.trans (sw6.below lw5.size (fun j hj e => by have e' : j = w.heap.size := e; omega))
  have Hw6 := Lib.hid hw6
  clear hw6
  go_upto_region 18 with fail
  rw [← Hw6.out]
  clear y0 y1 y2 y3 y4 y5 y6 f3
  replace B1 := B1w6
  replace B2 := B2w6
  obtain ⟨y0, y1, y2, y3, y4, y5, y6⟩ := rd_cells B1
  have f6 := B1.frozen 6
  go_wp2_with fail
  rw [HWD.out]
  refine (HRD.out w6).mono ?_
  rintro x w7 ⟨rfl, n, b, rfl, hrd⟩
  have HRO := Lib.hid hrd
  clear hrd
  by_cases hbad : ((txt wd).headD 0 = 48 ∧ 1 < (txt wd).length) ∨ 9007199254740992 < numOf (txt wd)
  · have hr : res = none := by rw [HRES.out]; unfold numE; rw [if_pos hbad]
    have hov : ∀ v, undecL (txt wd) = some v → 9007199254740992 < v := by have := HU.out; rw [if_pos hbad] at this; exact this
    have hbn : b = true → 9007199254740992 < n := fun hb => by
      have h1 := HRO.out.some
      rw [hb] at h1
      obtain ⟨v, hv⟩ := Option.isSome_iff_exists.1 h1.symm
      rw [HRO.out.val v hv]; exact hov v hv
    subst hr
    obtain ⟨w8, hw8⟩ : ∃ w8, w8 = World.setCell w7 ⟨w.heap.size, 6, none⟩ (.bool true) := ⟨_, rfl⟩
    have sw8 : Stays (fun k => k = w.heap.size) w7 w8 := by rw [hw8]; exact (Stays.cell (.refl _ w7) 6 (.bool true))
    have B1w8 : Blk w8 w.heap.size (rdC s (.slice na nl nc) (.slice va vl vc) E d e0 true) 137 := by rw [hw8]; exact (Blk.set B1 6 (.bool true))
    have B2w8 := B2.stays sw8 (by omega)
    have l8 := l6.trans (sw8.below l6.size (fun j hj e => by have e' : j = w.heap.size := e; omega))
    have Hw8 := Lib.hid hw8
    clear hw8
    cases b with
    | true =>
      have hgt := hbn rfl
      clear hbn hov hbad
      go_upto_region 21 with fail
      rw [← Hw8.out]
      clear y0 y1 y2 y3 y4 y5 y6 f6
      replace B1 := B1w8
      replace B2 := B2w8
      obtain ⟨y0, y1, y2, y3, y4, y5, y6⟩ := rd_cells B1
      go_wp2_with (refine wpList_unit (o := ⟨none, Op.store 137 _ _, _, _, _, _⟩) rfl rfl (Instr.storeAt 137 _ _) rfl (blk_store (c' := rdC s (.slice na nl nc) (.slice va vl vc) E d e0 true) B2 size137 rfl rfl) ?_)
      have hB9 := setRow_heap w8 (w.heap.size + 1) _ (rdC s (.slice na nl nc) (.slice va vl vc) E d e0 true) 137 B2
      have hl9 := l8.trans ((setRow_stays w8 (w.heap.size + 1) (rdC s (.slice na nl nc) (.slice va vl vc) E d e0 true)).below l8.size (fun j hj e => by have e' : j = w.heap.size + 1 := e; omega))
      obtain ⟨w9, hw9⟩ : ∃ w9, w9 = (w8).setRow (w.heap.size + 1) (rdC s (.slice na nl nc) (.slice va vl vc) E d e0 true) := ⟨_, rfl⟩
      rw [← hw9] at hB9 hl9
      rw [← hw9]
      obtain ⟨x0, x1, x2, x3, x4, x5, x6⟩ := rd_cells hB9
      refine ⟨rfl, .tuple #[rdV s (.slice na nl nc) (.slice va vl vc) E d e0 true, .int .i64 n], ?_, hl9, E, d, e0, n, rfl⟩
      simp [results, Tryz.results145, go_sem, x0, x1, x2, x3, x4, x5, x6]
    | false =>
      clear hbn hov hbad
      go_upto_region 21 with fail
      rw [← Hw8.out]
      clear y0 y1 y2 y3 y4 y5 y6 f6
      replace B1 := B1w8
      replace B2 := B2w8
      obtain ⟨y0, y1, y2, y3, y4, y5, y6⟩ := rd_cells B1
      go_wp2_with (refine wpList_unit (o := ⟨none, Op.store 137 _ _, _, _, _, _⟩) rfl rfl (Instr.storeAt 137 _ _) rfl (blk_store (c' := rdC s (.slice na nl nc) (.slice va vl vc) E d e0 true) B2 size137 rfl rfl) ?_)
      have hB9 := setRow_heap w8 (w.heap.size + 1) _ (rdC s (.slice na nl nc) (.slice va vl vc) E d e0 true) 137 B2
      have hl9 := l8.trans ((setRow_stays w8 (w.heap.size + 1) (rdC s (.slice na nl nc) (.slice va vl vc) E d e0 true)).below l8.size (fun j hj e => by have e' : j = w.heap.size + 1 := e; omega))
      obtain ⟨w9, hw9⟩ : ∃ w9, w9 = (w8).setRow (w.heap.size + 1) (rdC s (.slice na nl nc) (.slice va vl vc) E d e0 true) := ⟨_, rfl⟩
      rw [← hw9] at hB9 hl9
      rw [← hw9]
      obtain ⟨x0, x1, x2, x3, x4, x5, x6⟩ := rd_cells hB9
      refine ⟨rfl, .tuple #[rdV s (.slice na nl nc) (.slice va vl vc) E d e0 true, .int .i64 n], ?_, hl9, E, d, e0, n, rfl⟩
      simp [results, Tryz.results145, go_sem, x0, x1, x2, x3, x4, x5, x6]
  · have hr : res = some (.num (numOf (txt wd)), (txt s).drop E) := by rw [HRES.out]; unfold numE; rw [if_neg hbad]
    have hu : undecL (txt wd) = some (numOf (txt wd) : Int) := by have := HU.out; rw [if_neg hbad] at this; exact this
    have hb : b = true := by rw [HRO.out.some, hu]; rfl
    have hn : n = (numOf (txt wd) : Int) := HRO.out.val _ hu
    have hnle : ¬ 9007199254740992 < n := by rw [hn]; omega
    have hnote : Note (scopeOf ns vs) e0 (.num (numOf (txt wd))) e0 n := by
      unfold Note
      split
      · rename_i h0; exact ⟨h0, hn⟩
      · rfl
    subst hr
    subst hb
    have HNT := Lib.hid hnote
    clear hu hn hbad hnote
    go_wp2_with (refine wpList_unit (o := ⟨none, Op.store 137 _ _, _, _, _, _⟩) rfl rfl (Instr.storeAt 137 _ _) rfl (blk_store (c' := rdC s (.slice na nl nc) (.slice va vl vc) E d e0 false) B2 size137 rfl rfl) ?_)
    have hB9 := setRow_heap w7 (w.heap.size + 1) _ (rdC s (.slice na nl nc) (.slice va vl vc) E d e0 false) 137 B2
    have hl9 := l6.trans ((setRow_stays w7 (w.heap.size + 1) (rdC s (.slice na nl nc) (.slice va vl vc) E d e0 false)).below l6.size (fun j hj e => by have e' : j = w.heap.size + 1 := e; omega))
    obtain ⟨w9, hw9⟩ : ∃ w9, w9 = (w7).setRow (w.heap.size + 1) (rdC s (.slice na nl nc) (.slice va vl vc) E d e0 false) := ⟨_, rfl⟩
    rw [← hw9] at hB9 hl9
    rw [← hw9]
    obtain ⟨x0, x1, x2, x3, x4, x5, x6⟩ := rd_cells hB9
    refine ⟨rfl, .tuple #[rdV s (.slice na nl nc) (.slice va vl vc) E d e0 false, .int .i64 n], ?_, hl9, E, e0, n, htk, rfl, HNT.out, rfl⟩
    simp [results, Tryz.results145, go_sem, x0, x1, x2, x3, x4, x5, x6]
def nameE (l rest : List UInt8) : Option (Ex × List UInt8) := if l.length ≤ 16 then some (.name l, rest) else none
set_option maxHeartbeats 4000000 in
theorem primR_name (h : RdH w s na nl nc va vl vc ns vs) (ha : at_ < s.size) (hl : isLet (byteAt s at_) = true) :
    Calls Tryz.prog 145 #[rdV s (.slice na nl nc) (.slice va vl vc) at_ d e0 false] w (RetLv w s na nl nc va vl vc d (scopeOf ns vs) e0 (nameE (taken isLet ((txt s).drop at_)).1 (taken isLet ((txt s).drop at_)).2)) := by
  have n1 : isNext s ⟨#[40]⟩ at_ false = false := by
    rw [isNext_at ha, par_is, decide_eq_false (let_dig_par hl).2]
  have n2 : isNext s ⟨#[48, 49, 50, 51, 52, 53, 54, 55, 56, 57]⟩ at_ false = false := by
    rw [isNext_at ha, digs_is, (let_dig_par hl).1]
  have htk := tk_le (p := isLet) (Nat.le_of_lt ha)
  have hpos : 0 < tk isLet s at_ := by rw [tk_step ha hl]; omega
  have hrest := tk_rest isLet s at_
  have hwt := tk_txt isLet s at_
  have hlen : (taken isLet ((txt s).drop at_)).1.length = tk isLet s at_ := rfl
  obtain ⟨n, hn⟩ : ∃ n, n = tk isLet s at_ := ⟨_, rfl⟩
  rw [← hn] at htk hpos hrest hwt hlen
  obtain ⟨E, hE⟩ : ∃ E, E = at_ + n := ⟨_, rfl⟩
  rw [← hE] at htk hrest hwt
  obtain ⟨wd, hwd⟩ : ∃ wd, wd = s.extract at_ E := ⟨_, rfl⟩
  rw [← hwd] at hwt
  obtain ⟨res, hres⟩ : ∃ res, res = nameE (txt wd) ((txt s).drop E) := ⟨_, rfl⟩
  have hrr : nameE (taken isLet ((txt s).drop at_)).1 (taken isLet ((txt s).drop at_)).2 = res := by rw [hres, hwt, hrest]
  rw [hrr]
  have hwl : (txt wd).length = n := by rw [hwt, hlen]
  have hle : at_ ≤ E := by omega
  have hne : ((E : Int) == (at_ : Int)) = false := by simp; omega
  have hsub : (E : Int) - (at_ : Int) = (n : Int) := by omega
  have ha' : at_ ≤ s.size := by omega
  have N1 := Lib.hid n1
  have N2 := Lib.hid n2
  have N3 := Lib.hid (show at_ + tk (between 97 122) s at_ = E by rw [let_between, ← hn]; exact hE.symm)
  have HRES := Lib.hid hres
  have HWD := Lib.hid hwd.symm
  have HWL := Lib.hid hwl
  have HH := Lib.hid h
  clear n1 n2 hres hrr hwt hrest hE hl hwd hwl hlen hn
  obtain ⟨w2, hw2, l2, B1, B2, z2⟩ := rd_pre w (rdC s (.slice na nl nc) (.slice va vl vc) at_ d e0 false)
  have HW := Lib.hid hw2
  have hsz := h.sz
  clear hw2
  go_enter Tryz.func145, Tryz.ntmps145
  go_wp2_with fail
  rw [← HW.out]
  refine (isR_any s ⟨#[40]⟩ na va nl nc vl vc at_ d e0 false w2 hsz (by decide)).mono ?_
  rintro x w3 ⟨bw3, rfl⟩
  rw [N1.out]
  have lw3 := l2.trans (bw3.mono l2.size)
  replace B1 := B1.below bw3
  replace B2 := B2.below bw3
  obtain ⟨y0, y1, y2, y3, y4, y5, y6⟩ := rd_cells B1
  go_wp2_with fail
  refine (isR_any s ⟨#[48, 49, 50, 51, 52, 53, 54, 55, 56, 57]⟩ na va nl nc vl vc at_ d e0 false w3 hsz (by decide)).mono ?_
  rintro x w4 ⟨bw4, rfl⟩
  rw [N2.out]
  have lw4 := lw3.trans (bw4.mono lw3.size)
  replace B1 := B1.below bw4
  replace B2 := B2.below bw4
  clear y0 y1 y2 y3 y4 y5 y6
  obtain ⟨y0, y1, y2, y3, y4, y5, y6⟩ := rd_cells B1
  go_wp2_with fail
  refine (runR_any s 97 122 na va nl nc vl vc at_ d e0 false w4 hsz ha').mono ?_
  rintro x w5 ⟨bw5, rfl⟩
  rw [N3.out]
  have lw5 := lw4.trans (bw5.mono lw4.size)
  replace B1 := B1.below bw5
  replace B2 := B2.below bw5
  clear y0 y1 y2 y3 y4 y5 y6
  obtain ⟨y0, y1, y2, y3, y4, y5, y6⟩ := rd_cells B1
  have f3 := B1.frozen 3
  obtain ⟨w6, hw6⟩ : ∃ w6, w6 = World.setCell w5 ⟨w.heap.size, 3, none⟩ (.int .i64 E) := ⟨_, rfl⟩
  have sw6 : Stays (fun k => k = w.heap.size) w5 w6 := by rw [hw6]; exact (Stays.cell (.refl _ w5) 3 (.int .i64 E))
  have B1w6 : Blk w6 w.heap.size (rdC s (.slice na nl nc) (.slice va vl vc) E d e0 false) 137 := by rw [hw6]; exact (Blk.set B1 3 (.int .i64 E))
  have B2w6 := B2.stays sw6 (by omega)
  have l6 := lw5.trans (sw6.below lw5.size (fun j hj e => by have e' : j = w.heap.size := e; omega))
  have Hw6 := Lib.hid hw6
  clear hw6
  go_upto_region 23 with fail
  rw [← Hw6.out]
  clear y0 y1 y2 y3 y4 y5 y6 f3
  replace B1 := B1w6
  replace B2 := B2w6
  obtain ⟨y0, y1, y2, y3, y4, y5, y6⟩ := rd_cells B1
  have f6 := B1.frozen 6
  clear h
  by_cases h16 : 16 < n
  · have hr : res = none := by rw [HRES.out]; unfold nameE; rw [if_neg (by rw [HWL.out]; omega)]
    subst hr
    obtain ⟨w8, hw8⟩ : ∃ w8, w8 = World.setCell w6 ⟨w.heap.size, 6, none⟩ (.bool true) := ⟨_, rfl⟩
    have sw8 : Stays (fun k => k = w.heap.size) w6 w8 := by rw [hw8]; exact (Stays.cell (.refl _ w6) 6 (.bool true))
    have B1w8 : Blk w8 w.heap.size (rdC s (.slice na nl nc) (.slice va vl vc) E d e0 true) 137 := by rw [hw8]; exact (Blk.set B1 6 (.bool true))
    have B2w8 := B2.stays sw8 (by omega)
    have l8 := l6.trans (sw8.below l6.size (fun j hj e => by have e' : j = w.heap.size := e; omega))
    have Hw8 := Lib.hid hw8
    clear hw8
    go_upto_region 25 with fail
    rw [← Hw8.out]
    clear y0 y1 y2 y3 y4 y5 y6 f6
    replace B1 := B1w8
    replace B2 := B2w8
    obtain ⟨y0, y1, y2, y3, y4, y5, y6⟩ := rd_cells B1
    go_wp2_with (refine wpList_unit (o := ⟨none, Op.store 137 _ _, _, _, _, _⟩) rfl rfl (Instr.storeAt 137 _ _) rfl (blk_store (c' := rdC s (.slice na nl nc) (.slice va vl vc) E d e0 true) B2 size137 rfl rfl) ?_)
    have hB9 := setRow_heap w8 (w.heap.size + 1) _ (rdC s (.slice na nl nc) (.slice va vl vc) E d e0 true) 137 B2
    have hl9 := l8.trans ((setRow_stays w8 (w.heap.size + 1) (rdC s (.slice na nl nc) (.slice va vl vc) E d e0 true)).below l8.size (fun j hj e => by have e' : j = w.heap.size + 1 := e; omega))
    obtain ⟨w9, hw9⟩ : ∃ w9, w9 = (w8).setRow (w.heap.size + 1) (rdC s (.slice na nl nc) (.slice va vl vc) E d e0 true) := ⟨_, rfl⟩
    rw [← hw9] at hB9 hl9
    rw [← hw9]
    obtain ⟨x0, x1, x2, x3, x4, x5, x6⟩ := rd_cells hB9
    refine ⟨rfl, .tuple #[rdV s (.slice na nl nc) (.slice va vl vc) E d e0 true, .int .i64 0], ?_, hl9, E, d, e0, 0, rfl⟩
    simp [results, Tryz.results145, go_sem, x0, x1, x2, x3, x4, x5, x6]
  have hr : res = some (.name (txt wd), (txt s).drop E) := by rw [HRES.out]; unfold nameE; rw [if_pos (by rw [HWL.out]; omega)]
  subst hr
  obtain ⟨M, hM⟩ : ∃ M, M = min nl vl := ⟨_, rfl⟩
  have hmin : min (nl : Int) (vl : Int) = (M : Int) := by omega
  have hMn : M ≤ nl := by omega
  have hMv : M ≤ vl := by omega
  have hM6 : M ≤ 131072 := by have := HH.out.n1; omega
  have hsc : scopeUp ns vs M (txt wd) = scopeOf ns vs (txt wd) := by unfold scopeOf; rw [HH.out.e1, HH.out.e2, hM]
  have HSC := Lib.hid hsc
  have HH6 := Lib.hid (HH.out.below l6)
  clear hM hsc f6
  go_wp2_with fail
  clear y0 y1 y2 y3 y4 y5 y6
  go_loopw [9] (fun t wr => ∃ m : Nat, t = .int .i64 ((m : Int) - 1) ∧ m ≤ M ∧ scopeUp ns vs m (txt wd) = scopeOf ns vs (txt wd) ∧ Below w6.heap.size w6 wr) (fun t wr => (intOf t + 1).toNat)
  case atStart => exact ⟨M, rfl, Nat.le_refl _, HSC.out, Below.refl _ _⟩
  case round =>
    obtain ⟨m, rfl, hm, hsm, hbl⟩ := hrel
    have HSM := Lib.hid hsm
    clear hsm
    have lr := l6.trans (hbl.mono l6.size)
    replace B1 := B1.below hbl
    replace B2 := B2.below hbl
    have hzr := hbl.size
    obtain ⟨y0, y1, y2, y3, y4, y5, y6⟩ := rd_cells B1
    cases m with
    | zero =>
      have HN := Lib.hid (show scopeOf ns vs (txt wd) = none by rw [← HSM.out]; rfl)
      have hm0 : ((0 : Nat) : Int) - 1 = -1 := rfl
      go_wp2_with fail
      refine (failR_any s na va nl nc vl vc E d e0 100 false wr).mono ?_
      rintro x wf ⟨bf, rfl⟩
      have lf := lr.trans (bf.mono lr.size)
      have hzf := bf.size
      replace B1 := B1.below bf
      replace B2 := B2.below bf
      clear y0 y1 y2 y3 y4 y5 y6
      obtain ⟨ef, hef⟩ : ∃ ef : Int, ef = (if e0 = 0 then 100 else e0) := ⟨_, rfl⟩
      rw [← hef]
      have HNT := Lib.hid (show Note (scopeOf ns vs) e0 (.name (txt wd)) ef 0 by rw [hef]; exact (Note.name (σ := scopeOf ns vs) (s := txt wd) (e0 := e0)).1 HN.out)
      clear hef
      go_wp2_with (refine wpList_unit (o := ⟨none, Op.store 137 _ _, _, _, _, _⟩) rfl rfl (Instr.storeAt 137 _ _) rfl (blk_store (c' := rdC s (.slice na nl nc) (.slice va vl vc) E d ef false) B2 size137 rfl rfl) ?_)
      have hB9 := setRow_heap wf (w.heap.size + 1) _ (rdC s (.slice na nl nc) (.slice va vl vc) E d ef false) 137 B2
      have hl9 := lf.trans ((setRow_stays wf (w.heap.size + 1) (rdC s (.slice na nl nc) (.slice va vl vc) E d ef false)).below lf.size (fun j hj e => by have e' : j = w.heap.size + 1 := e; omega))
      obtain ⟨w9, hw9⟩ : ∃ w9, w9 = (wf).setRow (w.heap.size + 1) (rdC s (.slice na nl nc) (.slice va vl vc) E d ef false) := ⟨_, rfl⟩
      rw [← hw9] at hB9 hl9
      rw [← hw9]
      obtain ⟨x0, x1, x2, x3, x4, x5, x6⟩ := rd_cells hB9
      refine ⟨rfl, .tuple #[rdV s (.slice na nl nc) (.slice va vl vc) E d ef false, .int .i64 0], ?_, hl9, E, ef, 0, htk, rfl, HNT.out, rfl⟩
      simp [results, Tryz.results145, go_sem, x0, x1, x2, x3, x4, x5, x6]
    | succ k =>
      have hk1 : ((k + 1 : Nat) : Int) - 1 = (k : Int) := by omega
      have hkn : k < nl := by omega
      have hkv : k < vl := by omega
      have hkn' : k < ns.length := by rw [HH6.out.e1]; exact hkn
      have hkv' : k < vs.length := by rw [HH6.out.e2]; exact hkv
      have hst := scope_step ns vs k hkn' hkv' (txt wd)
      obtain ⟨Ln, on, rfl, cn0⟩ := srw_get HH6.out.sr hkn'
      obtain ⟨Lv, ov, rfl, cv0⟩ := nrow_get HH6.out.nr hkv'
      have hLv : Lv < w.heap.size := by
        obtain ⟨L', o', e', c'⟩ := nrow_get HH.out.nr hkv'
        injection e' with e'
        injection e' with e1 _
        rw [e1]
        exact World.block_lt_of_cell? w _ c'
      have cn := cell_below cn0 hbl
      have cv := cell_below cv0 hbl
      rw [HSM.out] at hst
      obtain ⟨nm, hnm⟩ : ∃ nm, nm = ns[k] := ⟨_, rfl⟩
      obtain ⟨vv, hvv⟩ : ∃ vv, vv = vs[k] := ⟨_, rfl⟩
      rw [← hnm] at cn hst
      rw [← hvv] at cv hst
      have HST := Lib.hid hst
      clear hst cn0 cv0 hnm hvv hkn' hkv'
      by_cases hq : txt wd = txt nm
      · have hcmp : (nm.toList == wd.toList) = true := by rw [ByteArray.toList_eq, ByteArray.toList_eq]; simp only [beq_iff_eq]; exact hq.symm
        have hsv : scopeOf ns vs (txt wd) = some vv := by rw [HST.out, if_pos hq]
        have HSV := Lib.hid hsv
        have HWI := Lib.hid (withinR_any vv)
        clear hsv hq
        rw [← HWD.out] at hcmp
        go_wp2_with fail
        go_quiet (fail)
        obtain ⟨q, hq9⟩ : ∃ q, q = 0 := ⟨_, rfl⟩
        clear hq9 q
        obtain ⟨wq, hwq⟩ : ∃ wq, wq = wr.drewN nq := ⟨_, rfl⟩
        have bq : Below wr.heap.size wr wq := by rw [hwq]; exact drewN_below _ _
        rw [← hwq]
        have cvq := cell_below cv bq
        have lq := lr.trans (bq.mono lr.size)
        have hzq := bq.size
        replace B1 := B1.below bq
        replace B2 := B2.below bq
        clear hwq y0 y1 y2 y3 y4 y5 y6 cn cv hcmp
        obtain ⟨y0, y1, y2, y3, y4, y5, y6⟩ := rd_cells B1
        by_cases hwi : Within vv
        · rw [decide_eq_true hwi] at HWI
          have HNT := Lib.hid (((Note.name (σ := scopeOf ns vs) (s := txt wd) (e0 := e0)).2 vv HSV.out).1 hwi)
          clear hwi
          go_upto_region 32 with (go_at_call 147; (with_reducible refine (HWI.out _).mono ?_); rintro x wz ⟨rfl, rfl⟩)
          obtain ⟨g0, g1, g2, g3, g4, g5, g6⟩ := rd_cells (s := ⟨#[]⟩) (nv := .slice none 0 0) (vv := .slice none 0 0) (at_ := 0) (d := 0) (e := 0) (wr := false) B2
          have z0 := B2.frozen 0
          have z1 := B2.frozen 1
          have z2 := B2.frozen 2
          have z3 := B2.frozen 3
          have z4 := B2.frozen 4
          have z5 := B2.frozen 5
          have z6 := B2.frozen 6
          have hLne : Lv ≠ w.heap.size + 1 := by omega
          go_region
          obtain ⟨w9, hw9⟩ : ∃ w9, w9 = World.drew (World.setCell (World.setCell (World.setCell (World.setCell (World.setCell (World.setCell (World.setCell wz ⟨w.heap.size + 1, 0, none⟩ (.string s)) ⟨w.heap.size + 1, 1, none⟩ (.slice (some ⟨Ln, on, none⟩) nl nc)) ⟨w.heap.size + 1, 2, none⟩ (.slice (some ⟨Lv, ov, none⟩) vl vc)) ⟨w.heap.size + 1, 3, none⟩ (.int .i64 E)) ⟨w.heap.size + 1, 4, none⟩ (.int .i64 d)) ⟨w.heap.size + 1, 5, none⟩ (.int .i64 e0)) ⟨w.heap.size + 1, 6, none⟩ (.bool false)) := ⟨_, rfl⟩
          have hB9 : Blk w9 (w.heap.size + 1) (rdC s (.slice (some ⟨Ln, on, none⟩) nl nc) (.slice (some ⟨Lv, ov, none⟩) vl vc) E d e0 false) 137 := by rw [hw9]; exact Blk.drewN (Blk.set (Blk.set (Blk.set (Blk.set (Blk.set (Blk.set (Blk.set B2 0 (.string s)) 1 (.slice (some ⟨Ln, on, none⟩) nl nc)) 2 (.slice (some ⟨Lv, ov, none⟩) vl vc)) 3 (.int .i64 E)) 4 (.int .i64 d)) 5 (.int .i64 e0)) 6 (.bool false)) 1
          have s9 : Stays (fun k => k = w.heap.size + 1) wz w9 := by rw [hw9]; exact Stays.drewN (Stays.cell ((Stays.cell ((Stays.cell ((Stays.cell ((Stays.cell ((Stays.cell ((Stays.cell (.refl _ wz) 0 (.string s))) 1 (.slice (some ⟨Ln, on, none⟩) nl nc))) 2 (.slice (some ⟨Lv, ov, none⟩) vl vc))) 3 (.int .i64 E))) 4 (.int .i64 d))) 5 (.int .i64 e0))) 6 (.bool false)) 1
          have hl9 := lq.trans (s9.below lq.size (fun j hj e => by have e' : j = w.heap.size + 1 := e; omega))
          clear g0 g1 g2 g3 g4 g5 g6
          go_wp2_with fail
          rw [← hw9]
          obtain ⟨x0, x1, x2, x3, x4, x5, x6⟩ := rd_cells hB9
          refine ⟨rfl, .tuple #[rdV s (.slice (some ⟨Ln, on, none⟩) nl nc) (.slice (some ⟨Lv, ov, none⟩) vl vc) E d e0 false, .int .i64 vv], ?_, hl9, E, e0, vv, htk, rfl, HNT.out, rfl⟩
          simp [results, Tryz.results145, go_sem, x0, x1, x2, x3, x4, x5, x6]
        · rw [decide_eq_false hwi] at HWI
          have HNT0 := Lib.hid (((Note.name (σ := scopeOf ns vs) (s := txt wd) (e0 := e0)).2 vv HSV.out).2 hwi)
          clear hwi
          go_wp2_with (go_at_call 147; (with_reducible refine (HWI.out _).mono ?_); rintro x wz ⟨rfl, rfl⟩)
          refine (failR_any s (some ⟨Ln, on, none⟩) (some ⟨Lv, ov, none⟩) nl nc vl vc E d e0 101 false wz).mono ?_
          rintro x wf ⟨bf, rfl⟩
          have lf := lq.trans (bf.mono lq.size)
          have hzf := bf.size
          replace B1 := B1.below bf
          replace B2 := B2.below bf
          clear y0 y1 y2 y3 y4 y5 y6
          obtain ⟨ef, hef⟩ : ∃ ef : Int, ef = (if e0 = 0 then 101 else e0) := ⟨_, rfl⟩
          rw [← hef]
          have HNT := Lib.hid (show Note (scopeOf ns vs) e0 (.name (txt wd)) ef 0 by rw [hef]; exact HNT0.out)
          clear hef
          go_wp2_with (refine wpList_unit (o := ⟨none, Op.store 137 _ _, _, _, _, _⟩) rfl rfl (Instr.storeAt 137 _ _) rfl (blk_store (c' := rdC s (.slice (some ⟨Ln, on, none⟩) nl nc) (.slice (some ⟨Lv, ov, none⟩) vl vc) E d ef false) B2 size137 rfl rfl) ?_)
          have hB9 := setRow_heap wf (w.heap.size + 1) _ (rdC s (.slice (some ⟨Ln, on, none⟩) nl nc) (.slice (some ⟨Lv, ov, none⟩) vl vc) E d ef false) 137 B2
          have hl9 := lf.trans ((setRow_stays wf (w.heap.size + 1) (rdC s (.slice (some ⟨Ln, on, none⟩) nl nc) (.slice (some ⟨Lv, ov, none⟩) vl vc) E d ef false)).below lf.size (fun j hj e => by have e' : j = w.heap.size + 1 := e; omega))
          obtain ⟨w9, hw9⟩ : ∃ w9, w9 = (wf).setRow (w.heap.size + 1) (rdC s (.slice (some ⟨Ln, on, none⟩) nl nc) (.slice (some ⟨Lv, ov, none⟩) vl vc) E d ef false) := ⟨_, rfl⟩
          rw [← hw9] at hB9 hl9
          rw [← hw9]
          obtain ⟨x0, x1, x2, x3, x4, x5, x6⟩ := rd_cells hB9
          refine ⟨rfl, .tuple #[rdV s (.slice (some ⟨Ln, on, none⟩) nl nc) (.slice (some ⟨Lv, ov, none⟩) vl vc) E d ef false, .int .i64 0], ?_, hl9, E, ef, 0, htk, rfl, HNT.out, rfl⟩
          simp [results, Tryz.results145, go_sem, x0, x1, x2, x3, x4, x5, x6]
      · have hcmp : (nm.toList == wd.toList) = false := by rw [ByteArray.toList_eq, ByteArray.toList_eq]; simp only [beq_eq_false_iff_ne]; exact fun e => hq e.symm
        have hsv : scopeUp ns vs k (txt wd) = scopeOf ns vs (txt wd) := by rw [HST.out, if_neg hq]
        have HSV := Lib.hid hsv
        clear hsv hq
        rw [← HWD.out] at hcmp
        go_wp2_with fail
        go_quiet (fail)
        go_wp2_with fail
        go_roundw
        case rel => exact ⟨k, rfl, by omega, HSV.out, hbl.trans ((drewN_below _ _).mono hbl.size)⟩
        case measure => simp [intOf]
end Go.Proofs.YtddnmocoaahlfaaGreatDoor
namespace Go.Proofs.YtddnmocoaahlfaaGreatDoor
open Go.RowKit
theorem primR_all {d : Nat} (hd : d ≤ 16) {g : Reads} (hg : d < 16 → LevelR (d + 1) 0 g) : PrimR d (primE (if d < 16 then some g else none)) := by
  intro w s na nl nc va vl vc ns vs at_ e0 h ha
  rcases Nat.lt_or_ge at_ s.size with hlt | hge
  · have hdb := drop_byte hlt
    by_cases hdig : isDig (byteAt s at_) = true
    · have hr : primE (if d < 16 then some g else none) ((txt s).drop at_) = numE (taken isDig ((txt s).drop at_)).1 (taken isDig ((txt s).drop at_)).2 := by
        have hh : (taken isDig ((txt s).drop at_)).1.headD 0 = byteAt s at_ := by
          rw [hdb]; unfold taken; simp [hdig]
        unfold numE
        rw [hh]
        conv => lhs; rw [hdb]
        unfold primE
        simp only
        rw [if_pos hdig, ← hdb]
      rw [hr]
      exact primR_num h hlt hdig
    by_cases hlet : isLet (byteAt s at_) = true
    · have hr : primE (if d < 16 then some g else none) ((txt s).drop at_) = nameE (taken isLet ((txt s).drop at_)).1 (taken isLet ((txt s).drop at_)).2 := by
        unfold nameE
        conv => lhs; rw [hdb]
        unfold primE
        simp only
        rw [if_neg hdig, if_pos hlet, ← hdb]
      rw [hr]
      exact primR_name h hlt hlet
    by_cases h40 : byteAt s at_ = 40
    · by_cases h16 : d < 16
      · have hr : primE (if d < 16 then some g else none) ((txt s).drop at_) = openE g ((txt s).drop (at_ + 1)) := by
          rw [hdb]
          unfold primE
          simp only
          rw [if_neg hdig, if_neg hlet, if_pos h40, if_pos h16]
          rfl
        rw [hr]
        exact primR_open h hlt h40 h16 (hg h16)
      · have hr : primE (if d < 16 then some g else none) ((txt s).drop at_) = none := by
          rw [hdb]
          unfold primE
          simp only
          rw [if_neg hdig, if_neg hlet, if_pos h40, if_neg h16]
        rw [hr]
        obtain rfl : d = 16 := by omega
        exact primR_deep h hlt h40
    · have hr : primE (if d < 16 then some g else none) ((txt s).drop at_) = none := by
        rw [hdb]
        unfold primE
        simp only
        rw [if_neg hdig, if_neg hlet, if_neg h40]
      rw [hr]
      exact primR_other h ha (by simpa using hdig) (by simpa using hlet) h40
  · have h0 := byteAt_ge hge
    rw [drop_end hge]
    exact primR_other h ha (by rw [h0]; rfl) (by rw [h0]; rfl) (by rw [h0]; decide)
theorem minus_is (c : UInt8) : hasB ⟨#[45]⟩ c = (c == 45) := by rw [par_is]; rfl
variable {w : World} {s : ByteArray} {na va : Option Addr} {nl nc vl vc : Nat} {ns : List ByteArray} {vs : List Int} {at_ d : Nat} {e0 : Int}
set_option maxHeartbeats 4000000 in
theorem signR_all {d : Nat} {f : Reads} (hf : PrimR d f) (hfi : Fines f) : SignR d (signE f) := by
  intro w s na nl nc va vl vc ns vs at_ e0 h ha
  have hrest := tk_rest (· == 45) s at_
  have htk := tk_le (p := (· == 45)) ha
  obtain ⟨n, hn⟩ : ∃ n, n = tk (· == 45) s at_ := ⟨_, rfl⟩
  obtain ⟨res, hres⟩ : ∃ res, res = signE f ((txt s).drop at_) := ⟨_, rfl⟩
  have hr2 : res = match f ((txt s).drop (at_ + n)) with | none => none | some (x, t) => some (if n = 0 then x else .neg n x, t) := by
    rw [hres]
    unfold signE
    simp only
    rw [hn, hrest]
    rfl
  rw [← hres]
  rw [← hn] at htk
  have HRES := Lib.hid hr2
  have HF := Lib.hid hf
  have HFI := Lib.hid hfi
  have HH := Lib.hid h
  have HN := Lib.hid hn
  have hn6 : n ≤ 65536 := by have := h.sz; omega
  have hat6 : at_ ≤ 65536 := by have := h.sz; omega
  clear hrest hres hr2 hf hfi hn
  obtain ⟨w2, hw2, l2, B1, B2, z2⟩ := rd_pre w (rdC s (.slice na nl nc) (.slice va vl vc) at_ d e0 false)
  have HW := Lib.hid hw2
  have hsz := h.sz
  clear hw2
  go_enter Tryz.func113, Tryz.ntmps113
  go_wp2_with fail
  rw [← HW.out]
  clear h
  go_loopw [4] (fun t wr => ∃ m : Nat, t = .int .i64 m ∧ m + tk (· == 45) s (at_ + m) = n ∧ at_ + m ≤ s.size ∧ Below w.heap.size w wr ∧ w.heap.size + 2 ≤ wr.heap.size ∧ Blk wr w.heap.size (rdC s (.slice na nl nc) (.slice va vl vc) (at_ + m) d e0 false) 137 ∧ Blk wr (w.heap.size + 1) #[.string ⟨#[]⟩, .slice none 0 0, .slice none 0 0, .int .i64 0, .int .i64 0, .int .i64 0, .bool false] 137) (fun t wr => n - (intOf t).toNat)
  case atStart => exact ⟨0, rfl, by rw [Nat.zero_add]; exact HN.out.symm, by omega, l2, by omega, B1, B2⟩
  case round =>
    clear B1 B2
    obtain ⟨m, rfl, hm, hms, hbl, hz, B1, B2⟩ := hrel
    have HM := Lib.hid hm
    clear hm
    have hcell : isNext s ⟨#[45]⟩ (at_ + m) false = decide (m < n) := by
      rcases Nat.lt_or_ge (at_ + m) s.size with hlt | hge
      · rw [isNext_at hlt, minus_is]
        cases hc : (byteAt s (at_ + m) == 45) with
        | true => have h1 := tk_step (p := (· == 45)) hlt hc; have := HM.out; exact (decide_eq_true (by omega)).symm
        | false => have h1 := tk_stop (p := (· == 45)) hlt hc; have := HM.out; exact (decide_eq_false (by omega)).symm
      · rw [isNext_end hge]
        have h1 := tk_end (p := (· == 45)) hge
        have := HM.out
        exact (decide_eq_false (by omega)).symm
    by_cases hlt : m < n
    · have hnx : m + 1 + tk (· == 45) s (at_ + (m + 1)) = n := by
        have h3 : at_ + m < s.size := by
          rcases Nat.lt_or_ge (at_ + m) s.size with h | h
          · exact h
          · have := tk_end (p := (· == 45)) h; have := HM.out; omega
        have hc : (byteAt s (at_ + m) == 45) = true := by
          rw [isNext_at h3, minus_is, decide_eq_true hlt] at hcell; exact hcell
        have h1 := tk_step (p := (· == 45)) h3 hc
        have := HM.out
        rw [show at_ + (m + 1) = at_ + m + 1 by omega]
        omega
      have hms2 : at_ + (m + 1) ≤ s.size := by have := tk_le (p := (· == 45)) hms; have := HM.out; omega
      rw [decide_eq_true hlt] at hcell
      have HC := Lib.hid hcell
      have HNX := Lib.hid hnx
      clear hcell hnx
      obtain ⟨y0, y1, y2, y3, y4, y5, y6⟩ := rd_cells B1
      go_wp2_with fail
      refine (isR_any s ⟨#[45]⟩ na va nl nc vl vc (at_ + m) d e0 false wr hsz (by decide)).mono ?_
      rintro x w3 ⟨b3, rfl⟩
      rw [HC.out]
      have l3 := hbl.trans (b3.mono hbl.size)
      have hz3 := b3.size
      replace B1 := B1.below b3
      replace B2 := B2.below b3
      clear y0 y1 y2 y3 y4 y5 y6
      obtain ⟨A, hA⟩ : ∃ A, A = at_ + m := ⟨_, rfl⟩
      rw [← hA] at B1
      have hA6 : A ≤ 65536 := by omega
      have HA := Lib.hid hA
      clear hA
      obtain ⟨y0, y1, y2, y3, y4, y5, y6⟩ := rd_cells B1
      have f3 := B1.frozen 3
      obtain ⟨w4, hw4⟩ : ∃ w4, w4 = w3.setCell ⟨w.heap.size, 3, none⟩ (.int .i64 ((A : Int) + 1)) := ⟨_, rfl⟩
      have s4 : Stays (fun k => k = w.heap.size) w3 w4 := by rw [hw4]; exact Stays.cell (.refl _ w3) 3 _
      have B14 : Blk w4 w.heap.size (rdC s (.slice na nl nc) (.slice va vl vc) (A + 1) d e0 false) 137 := by rw [hw4]; exact B1.set 3 (.int .i64 ((A : Int) + 1))
      have B24 := B2.stays s4 (by omega)
      have l4 := l3.trans (s4.below l3.size (fun j hj e => by have e' : j = w.heap.size := e; omega))
      have hz4 := s4.size
      have HW4 := Lib.hid hw4
      clear hw4
      go_wp2_with fail
      rw [← HW4.out]
      go_roundw
      case rel => exact ⟨m + 1, by go_num, HNX.out, hms2, l4, by omega, by rw [show at_ + (m + 1) = A + 1 by rw [HA.out]; omega]; exact B14, B24⟩
      case measure => simp [intOf]; omega
    · obtain rfl : m = n := by have := HM.out; omega
      rw [decide_eq_false hlt] at hcell
      have HC := Lib.hid hcell
      clear hcell
      obtain ⟨y0, y1, y2, y3, y4, y5, y6⟩ := rd_cells B1
      go_wp2_with fail
      refine (isR_any s ⟨#[45]⟩ na va nl nc vl vc (at_ + m) d e0 false wr hsz (by decide)).mono ?_
      rintro x w3 ⟨b3, rfl⟩
      rw [HC.out]
      have l3 := hbl.trans (b3.mono hbl.size)
      have hz3 := b3.size
      replace B1 := B1.below b3
      replace B2 := B2.below b3
      clear y0 y1 y2 y3 y4 y5 y6
      obtain ⟨y0, y1, y2, y3, y4, y5, y6⟩ := rd_cells B1
      go_wp2_with fail
      refine (HF.out w3 s na nl nc va vl vc ns vs (at_ + m) e0 (HH.out.below l3) hms).mono ?_
      rintro x w4 ⟨b4, hx⟩
      have l4 := l3.trans (b4.mono l3.size)
      have hz4 := b4.size
      replace B1 := B1.below b4
      replace B2 := B2.below b4
      clear y0 y1 y2 y3 y4 y5 y6
      cases hfr : f ((txt s).drop (at_ + m)) with
      | none =>
        rw [hfr] at hx
        obtain ⟨at2, d2, e2, v2, rfl⟩ := hx
        have hr : res = none := by rw [HRES.out, hfr]
        subst hr
        clear HRES hfr
        go_upto_region 6 with (refine wpList_unit (o := ⟨none, Op.store 137 _ _, _, _, _, _⟩) rfl rfl (Instr.storeAt 137 _ _) rfl (blk_store (c' := rdC s (.slice na nl nc) (.slice va vl vc) at2 d2 e2 true) B1 size137 rfl rfl) ?_)
        obtain ⟨w7, hw7⟩ : ∃ w7, w7 = w4.setRow w.heap.size (rdC s (.slice na nl nc) (.slice va vl vc) at2 d2 e2 true) := ⟨_, rfl⟩
        have s7 := setRow_stays w4 w.heap.size (rdC s (.slice na nl nc) (.slice va vl vc) at2 d2 e2 true)
        have B17 := setRow_heap w4 w.heap.size _ (rdC s (.slice na nl nc) (.slice va vl vc) at2 d2 e2 true) 137 B1
        rw [← hw7] at s7 B17
        rw [← hw7]
        have l7 := l4.trans (s7.below l4.size (fun j hj e => by have e' : j = w.heap.size := e; omega))
        have hz7 := s7.size
        replace B2 := B2.stays s7 (by omega)
        replace B1 := B17
        clear hw7 B17 s7
        obtain ⟨y0, y1, y2, y3, y4, y5, y6⟩ := rd_cells B1
        obtain ⟨u, hu⟩ : ∃ u, wrap64 (-v2) = u := ⟨_, rfl⟩
        by_cases hodd : m % 2 = 1
        · have d1 : ((m : Int) % 2 == 1) = true := by simp; omega
          go_wp2_with (refine wpList_unit (o := ⟨none, Op.store 137 _ _, _, _, _, _⟩) rfl rfl (Instr.storeAt 137 _ _) rfl (blk_store (c' := rdC s (.slice na nl nc) (.slice va vl vc) at2 d2 e2 true) B2 size137 rfl rfl) ?_)
          have hB9 := setRow_heap w7 (w.heap.size + 1) _ (rdC s (.slice na nl nc) (.slice va vl vc) at2 d2 e2 true) 137 B2
          have hl9 := l7.trans ((setRow_stays w7 (w.heap.size + 1) (rdC s (.slice na nl nc) (.slice va vl vc) at2 d2 e2 true)).below l7.size (fun j hj e => by have e' : j = w.heap.size + 1 := e; omega))
          obtain ⟨w9, hw9⟩ : ∃ w9, w9 = (w7).setRow (w.heap.size + 1) (rdC s (.slice na nl nc) (.slice va vl vc) at2 d2 e2 true) := ⟨_, rfl⟩
          rw [← hw9] at hB9 hl9
          rw [← hw9]
          obtain ⟨x0, x1, x2, x3, x4, x5, x6⟩ := rd_cells hB9
          refine ⟨rfl, .tuple #[rdV s (.slice na nl nc) (.slice va vl vc) at2 d2 e2 true, .int .i64 u], ?_, hl9, at2, d2, e2, u, rfl⟩
          simp [results, Tryz.results113, go_sem, x0, x1, x2, x3, x4, x5, x6, hu]
        · have d1 : ((m : Int) % 2 == 1) = false := by simp; omega
          go_wp2_with (refine wpList_unit (o := ⟨none, Op.store 137 _ _, _, _, _, _⟩) rfl rfl (Instr.storeAt 137 _ _) rfl (blk_store (c' := rdC s (.slice na nl nc) (.slice va vl vc) at2 d2 e2 true) B2 size137 rfl rfl) ?_)
          have hB9 := setRow_heap w7 (w.heap.size + 1) _ (rdC s (.slice na nl nc) (.slice va vl vc) at2 d2 e2 true) 137 B2
          have hl9 := l7.trans ((setRow_stays w7 (w.heap.size + 1) (rdC s (.slice na nl nc) (.slice va vl vc) at2 d2 e2 true)).below l7.size (fun j hj e => by have e' : j = w.heap.size + 1 := e; omega))
          obtain ⟨w9, hw9⟩ : ∃ w9, w9 = (w7).setRow (w.heap.size + 1) (rdC s (.slice na nl nc) (.slice va vl vc) at2 d2 e2 true) := ⟨_, rfl⟩
          rw [← hw9] at hB9 hl9
          rw [← hw9]
          obtain ⟨x0, x1, x2, x3, x4, x5, x6⟩ := rd_cells hB9
          refine ⟨rfl, .tuple #[rdV s (.slice na nl nc) (.slice va vl vc) at2 d2 e2 true, .int .i64 v2], ?_, hl9, at2, d2, e2, v2, rfl⟩
          simp [results, Tryz.results113, go_sem, x0, x1, x2, x3, x4, x5, x6]
      | some p =>
        obtain ⟨y, t⟩ := p
        rw [hfr] at hx
        obtain ⟨at2, e2, v2, hle2, hdr2, hnote, rfl⟩ := hx
        obtain ⟨Y, hY⟩ : ∃ Y, Y = if m = 0 then y else .neg m y := ⟨_, rfl⟩
        have hr : res = some (Y, t) := by rw [HRES.out, hfr, hY]
        subst hr
        have hfine := HFI.out _ _ _ hfr
        have HNT := Lib.hid hnote
        have HFN := Lib.hid hfine
        have HNY := Lib.hid (show ∀ v', (e2 = 0 → v' = if m % 2 = 1 then -v2 else v2) → Note (scopeOf ns vs) e0 Y e2 v' from fun v' hv => by rw [hY]; exact hnote.neg hfine m v' hv)
        clear hY
        clear HRES hfr hfine hnote
        go_upto_region 6 with (refine wpList_unit (o := ⟨none, Op.store 137 _ _, _, _, _, _⟩) rfl rfl (Instr.storeAt 137 _ _) rfl (blk_store (c' := rdC s (.slice na nl nc) (.slice va vl vc) at2 d e2 false) B1 size137 rfl rfl) ?_)
        obtain ⟨w7, hw7⟩ : ∃ w7, w7 = w4.setRow w.heap.size (rdC s (.slice na nl nc) (.slice va vl vc) at2 d e2 false) := ⟨_, rfl⟩
        have s7 := setRow_stays w4 w.heap.size (rdC s (.slice na nl nc) (.slice va vl vc) at2 d e2 false)
        have B17 := setRow_heap w4 w.heap.size _ (rdC s (.slice na nl nc) (.slice va vl vc) at2 d e2 false) 137 B1
        rw [← hw7] at s7 B17
        rw [← hw7]
        have l7 := l4.trans (s7.below l4.size (fun j hj e => by have e' : j = w.heap.size := e; omega))
        have hz7 := s7.size
        replace B2 := B2.stays s7 (by omega)
        replace B1 := B17
        clear hw7 B17 s7
        obtain ⟨y0, y1, y2, y3, y4, y5, y6⟩ := rd_cells B1
        obtain ⟨u, hu⟩ : ∃ u, wrap64 (-v2) = u := ⟨_, rfl⟩
        have hu0 : e2 = 0 → u = -v2 := fun h0 => by
          obtain ⟨_, hev⟩ := HNT.out.zero h0
          have hw := eval_within HFN.out hev
          unfold Within maxValue at hw
          rw [← hu]; unfold wrap64; omega
        have HU := Lib.hid hu0
        clear hu0
        by_cases hodd : m % 2 = 1
        · have d1 : ((m : Int) % 2 == 1) = true := by simp; omega
          go_wp2_with (refine wpList_unit (o := ⟨none, Op.store 137 _ _, _, _, _, _⟩) rfl rfl (Instr.storeAt 137 _ _) rfl (blk_store (c' := rdC s (.slice na nl nc) (.slice va vl vc) at2 d e2 false) B2 size137 rfl rfl) ?_)
          have hB9 := setRow_heap w7 (w.heap.size + 1) _ (rdC s (.slice na nl nc) (.slice va vl vc) at2 d e2 false) 137 B2
          have hl9 := l7.trans ((setRow_stays w7 (w.heap.size + 1) (rdC s (.slice na nl nc) (.slice va vl vc) at2 d e2 false)).below l7.size (fun j hj e => by have e' : j = w.heap.size + 1 := e; omega))
          obtain ⟨w9, hw9⟩ : ∃ w9, w9 = (w7).setRow (w.heap.size + 1) (rdC s (.slice na nl nc) (.slice va vl vc) at2 d e2 false) := ⟨_, rfl⟩
          rw [← hw9] at hB9 hl9
          rw [← hw9]
          obtain ⟨x0, x1, x2, x3, x4, x5, x6⟩ := rd_cells hB9
          refine ⟨rfl, .tuple #[rdV s (.slice na nl nc) (.slice va vl vc) at2 d e2 false, .int .i64 u], ?_, hl9, at2, e2, u, hle2, hdr2, HNY.out u (fun h0 => by rw [if_pos hodd]; exact HU.out h0), rfl⟩
          simp [results, Tryz.results113, go_sem, x0, x1, x2, x3, x4, x5, x6, hu]
        · have d1 : ((m : Int) % 2 == 1) = false := by simp; omega
          go_wp2_with (refine wpList_unit (o := ⟨none, Op.store 137 _ _, _, _, _, _⟩) rfl rfl (Instr.storeAt 137 _ _) rfl (blk_store (c' := rdC s (.slice na nl nc) (.slice va vl vc) at2 d e2 false) B2 size137 rfl rfl) ?_)
          have hB9 := setRow_heap w7 (w.heap.size + 1) _ (rdC s (.slice na nl nc) (.slice va vl vc) at2 d e2 false) 137 B2
          have hl9 := l7.trans ((setRow_stays w7 (w.heap.size + 1) (rdC s (.slice na nl nc) (.slice va vl vc) at2 d e2 false)).below l7.size (fun j hj e => by have e' : j = w.heap.size + 1 := e; omega))
          obtain ⟨w9, hw9⟩ : ∃ w9, w9 = (w7).setRow (w.heap.size + 1) (rdC s (.slice na nl nc) (.slice va vl vc) at2 d e2 false) := ⟨_, rfl⟩
          rw [← hw9] at hB9 hl9
          rw [← hw9]
          obtain ⟨x0, x1, x2, x3, x4, x5, x6⟩ := rd_cells hB9
          refine ⟨rfl, .tuple #[rdV s (.slice na nl nc) (.slice va vl vc) at2 d e2 false, .int .i64 v2], ?_, hl9, at2, e2, v2, hle2, hdr2, HNY.out v2 (fun h0 => by rw [if_neg hodd]), rfl⟩
          simp [results, Tryz.results113, go_sem, x0, x1, x2, x3, x4, x5, x6]
end Go.Proofs.YtddnmocoaahlfaaGreatDoor
namespace Go.Proofs.YtddnmocoaahlfaaGreatDoor
open Go.RowKit
def opsB : Array Value := #[.string ⟨#[124]⟩, .string ⟨#[38]⟩, .string ⟨#[61, 60, 62]⟩, .string ⟨#[43, 45]⟩, .string ⟨#[42, 47, 37]⟩]
structure OpsAt (n : Nat) (ops : ByteArray) (sv : Bool) : Prop where
  lt : n < 5
  cell : opsB[n]? = some (.string ops)
  sev : ((n : Int) == 2) = !sv
  small : ops.size ≤ 65536
  mem : ∀ c, hasB ops c = true → c ∈ [43, 45, 42, 47, 37, 61, 60, 62, 38, (124 : UInt8)]
  gr : grammar.drop n = (txt ops, sv) :: grammar.drop (n + 1)
theorem opsAt : ∀ n, n < 5 → ∃ ops sv, OpsAt n ops sv
  | 0, _ => ⟨⟨#[124]⟩, true, by decide, rfl, rfl, by decide, fun c h => by
      have : c = 124 := by simpa [hasB] using h
      subst this; decide, rfl⟩
  | 1, _ => ⟨⟨#[38]⟩, true, by decide, rfl, rfl, by decide, fun c h => by
      have : c = 38 := by simpa [hasB] using h
      subst this; decide, rfl⟩
  | 2, _ => ⟨⟨#[61, 60, 62]⟩, false, by decide, rfl, rfl, by decide, fun c h => by
      have : c = 61 ∨ c = 60 ∨ c = 62 := by simpa [hasB] using h
      rcases this with rfl | rfl | rfl <;> decide, rfl⟩
  | 3, _ => ⟨⟨#[43, 45]⟩, true, by decide, rfl, rfl, by decide, fun c h => by
      have : c = 43 ∨ c = 45 := by simpa [hasB] using h
      rcases this with rfl | rfl <;> decide, rfl⟩
  | 4, _ => ⟨⟨#[42, 47, 37]⟩, true, by decide, rfl, rfl, by decide, fun c h => by
      have : c = 42 ∨ c = 47 ∨ c = 37 := by simpa [hasB] using h
      rcases this with rfl | rfl | rfl <;> decide, rfl⟩
  | n + 5, h => by omega
theorem levelE_none' {ops : List UInt8} {sv : Bool} {sub : Reads} {r : List UInt8} (h : sub r = none) : levelE ops sv sub r = none := by unfold levelE; rw [h]
set_option maxHeartbeats 2000000 in
theorem level_last {d : Nat} {f : Reads} (hf : SignR d f) : LevelR d 5 f := by
  intro w s na nl nc va vl vc ns vs at_ e0 h ha
  obtain ⟨w2, hw2, l2, B1, B2, z2⟩ := rd_pre w (rdC s (.slice na nl nc) (.slice va vl vc) at_ d e0 false)
  obtain ⟨w3, hw3⟩ : ∃ w3, w3 = w2.alloc (.cells #[.string ⟨#[124]⟩, .string ⟨#[38]⟩, .string ⟨#[61, 60, 62]⟩, .string ⟨#[43, 45]⟩, .string ⟨#[42, 47, 37]⟩] 183) := ⟨_, rfl⟩
  have l23 : Below w2.heap.size w2 w3 := by rw [hw3]; exact (Below.refl _ _).alloc (Nat.le_refl _) _
  have B3 : Blk w3 (w.heap.size + 1 + 1) #[.string ⟨#[124]⟩, .string ⟨#[38]⟩, .string ⟨#[61, 60, 62]⟩, .string ⟨#[43, 45]⟩, .string ⟨#[42, 47, 37]⟩] 183 := by rw [hw3, show w.heap.size + 1 + 1 = w2.heap.size by omega]; exact Blk.new w2 _ _
  have l3 := l2.trans (l23.mono l2.size)
  have z3 : w3.heap.size = w.heap.size + 3 := by rw [hw3]; simp [z2]
  replace B1 := B1.below l23
  replace B2 := B2.below l23
  have hw3' := hw3
  rw [hw2] at hw3'
  have HW := Lib.hid hw3'
  have hsz := h.sz
  clear hw2 hw3 hw3' l23
  go_enter Tryz.func66, Tryz.ntmps66
  have HC := Lib.hid (hf w3 s na nl nc va vl vc ns vs at_ e0 (h.below l3) ha)
  obtain ⟨res, hres⟩ : ∃ res, res = f ((txt s).drop at_) := ⟨_, rfl⟩
  rw [← hres] at HC ⊢
  clear hres h
  go_wp2_with fail
  rw [← HW.out]
  refine HC.out.mono ?_
  rintro x w4 ⟨b4, hx⟩
  have l4 := l3.trans (b4.mono l3.size)
  have hz4 := b4.size
  replace B1 := B1.below b4
  replace B2 := B2.below b4
  cases res with
  | none =>
    obtain ⟨at2, d2, e2, v2, rfl⟩ := hx
    go_wp2_with (refine wpList_unit (o := ⟨none, Op.store 137 _ _, _, _, _, _⟩) rfl rfl (Instr.storeAt 137 _ _) rfl (blk_store (c' := rdC s (.slice na nl nc) (.slice va vl vc) at2 d2 e2 true) B2 size137 rfl rfl) ?_)
    have hB9 := setRow_heap w4 (w.heap.size + 1) _ (rdC s (.slice na nl nc) (.slice va vl vc) at2 d2 e2 true) 137 B2
    have hl9 := l4.trans ((setRow_stays w4 (w.heap.size + 1) (rdC s (.slice na nl nc) (.slice va vl vc) at2 d2 e2 true)).below l4.size (fun j hj e => by have e' : j = w.heap.size + 1 := e; omega))
    obtain ⟨w9, hw9⟩ : ∃ w9, w9 = (w4).setRow (w.heap.size + 1) (rdC s (.slice na nl nc) (.slice va vl vc) at2 d2 e2 true) := ⟨_, rfl⟩
    rw [← hw9] at hB9 hl9
    rw [← hw9]
    obtain ⟨x0, x1, x2, x3, x4, x5, x6⟩ := rd_cells hB9
    refine ⟨rfl, .tuple #[rdV s (.slice na nl nc) (.slice va vl vc) at2 d2 e2 true, .int .i64 v2], ?_, hl9, at2, d2, e2, v2, rfl⟩
    simp [results, Tryz.results66, go_sem, x0, x1, x2, x3, x4, x5, x6]
  | some p =>
    obtain ⟨y, t⟩ := p
    obtain ⟨at2, e2, v2, hle2, hdr2, hnote, rfl⟩ := hx
    have HNT := Lib.hid hnote
    have HDR := Lib.hid hdr2
    clear hnote hdr2
    go_wp2_with (refine wpList_unit (o := ⟨none, Op.store 137 _ _, _, _, _, _⟩) rfl rfl (Instr.storeAt 137 _ _) rfl (blk_store (c' := rdC s (.slice na nl nc) (.slice va vl vc) at2 d e2 false) B2 size137 rfl rfl) ?_)
    have hB9 := setRow_heap w4 (w.heap.size + 1) _ (rdC s (.slice na nl nc) (.slice va vl vc) at2 d e2 false) 137 B2
    have hl9 := l4.trans ((setRow_stays w4 (w.heap.size + 1) (rdC s (.slice na nl nc) (.slice va vl vc) at2 d e2 false)).below l4.size (fun j hj e => by have e' : j = w.heap.size + 1 := e; omega))
    obtain ⟨w9, hw9⟩ : ∃ w9, w9 = (w4).setRow (w.heap.size + 1) (rdC s (.slice na nl nc) (.slice va vl vc) at2 d e2 false) := ⟨_, rfl⟩
    rw [← hw9] at hB9 hl9
    rw [← hw9]
    obtain ⟨x0, x1, x2, x3, x4, x5, x6⟩ := rd_cells hB9
    refine ⟨rfl, .tuple #[rdV s (.slice na nl nc) (.slice va vl vc) at2 d e2 false, .int .i64 v2], ?_, hl9, at2, e2, v2, hle2, HDR.out, HNT.out, rfl⟩
    simp [results, Tryz.results66, go_sem, x0, x1, x2, x3, x4, x5, x6]
theorem level_step {d n : Nat} {sub : Reads} {ops : ByteArray} {sv : Bool} (hop : OpsAt n ops sv) (hsub : LevelR d (n + 1) sub) (heat : Eats sub) (hfi : Fines sub) : LevelR d n (levelE (txt ops) sv sub) := by
  intro w s na nl nc va vl vc ns vs at_ e0 h ha
  obtain ⟨w2, hw2, l2, B1, B2, z2⟩ := rd_pre w (rdC s (.slice na nl nc) (.slice va vl vc) at_ d e0 false)
  obtain ⟨w3, hw3⟩ : ∃ w3, w3 = w2.alloc (.cells #[.string ⟨#[124]⟩, .string ⟨#[38]⟩, .string ⟨#[61, 60, 62]⟩, .string ⟨#[43, 45]⟩, .string ⟨#[42, 47, 37]⟩] 183) := ⟨_, rfl⟩
  have l23 : Below w2.heap.size w2 w3 := by rw [hw3]; exact (Below.refl _ _).alloc (Nat.le_refl _) _
  have B3 : Blk w3 (w.heap.size + 1 + 1) #[.string ⟨#[124]⟩, .string ⟨#[38]⟩, .string ⟨#[61, 60, 62]⟩, .string ⟨#[43, 45]⟩, .string ⟨#[42, 47, 37]⟩] 183 := by rw [hw3, show w.heap.size + 1 + 1 = w2.heap.size by omega]; exact Blk.new w2 _ _
  have l3 := l2.trans (l23.mono l2.size)
  have z3 : w3.heap.size = w.heap.size + 3 := by rw [hw3]; simp [z2]
  replace B1 := B1.below l23
  replace B2 := B2.below l23
  have hw3' := hw3
  rw [hw2] at hw3'
  have HW := Lib.hid hw3'
  have hsz := h.sz
  clear hw2 hw3 hw3' l23
  go_enter Tryz.func66, Tryz.ntmps66
  obtain ⟨N, hN⟩ : ∃ N, N = n + 1 := ⟨_, rfl⟩
  rw [← hN] at hsub
  have hn1 : (n : Int) + 1 = (N : Int) := by omega
  obtain ⟨hn5, hcell, hsev, hosm, hmem, hgr⟩ := hop
  have hn5b : ((n : Int) == 5) = false := by simp; omega
  have hn5i : (n : Int) < 5 := by omega
  have HC := Lib.hid (hsub w3 s na nl nc va vl vc ns vs at_ e0 (h.below l3) ha)
  obtain ⟨res, hres⟩ : ∃ res, res = levelE (txt ops) sv sub ((txt s).drop at_) := ⟨_, rfl⟩
  rw [← hres]
  obtain ⟨r1, hr1⟩ : ∃ r, sub ((txt s).drop at_) = r := ⟨_, rfl⟩
  rw [hr1] at HC
  have HRES := Lib.hid hres
  have HR1 := Lib.hid hr1
  have HSUB := Lib.hid hsub
  have HEAT := Lib.hid heat
  have HFI := Lib.hid hfi
  have HH := Lib.hid h
  have HME := Lib.hid hmem
  clear hres hr1 h hN hsub heat hfi hmem hgr
  go_wp2_with fail
  rw [← HW.out]
  obtain ⟨y0, y1, y2, y3, y4, y5, y6⟩ := rd_cells B1
  clear y0 y1 y2 y3 y4 y5 y6
  refine HC.out.mono ?_
  rintro x w4 ⟨b4, hx⟩
  have l4 := l3.trans (b4.mono l3.size)
  have hz4 := b4.size
  replace B1 := B1.below b4
  replace B2 := B2.below b4
  replace B3 := B3.below b4
  have HS1 := Lib.hid (show ∀ a t, r1 = some (a, t) → ToGo (txt ops) sv sub 0 a t res from fun a t e => by rw [HRES.out]; exact ToGo.start (HR1.out.trans e))
  have HFA := Lib.hid (show ∀ a t, r1 = some (a, t) → Fine a from fun a t e => HFI.out _ _ _ (HR1.out.trans e))
  have HS0 := Lib.hid (show r1 = none → res = none from fun e => by rw [HRES.out]; exact levelE_none' (HR1.out.trans e))
  obtain ⟨at1, d1, e1, wr1, va1, rfl, hgood⟩ : ∃ (at1 d1 : Nat) (e1 : Int) (wr1 : Bool) (va1 : Int), x = .returned (.tuple #[rdV s (.slice na nl nc) (.slice va vl vc) at1 d1 e1 wr1, .int .i64 va1]) ∧ ((res = none ∧ wr1 = true) ∨ ∃ a, at1 ≤ s.size ∧ d1 = d ∧ wr1 = false ∧ Fine a ∧ Note (scopeOf ns vs) e0 a e1 va1 ∧ ToGo (txt ops) sv sub 0 a ((txt s).drop at1) res) := by
    cases r1 with
    | none =>
      obtain ⟨at2, d2, e2, v2, rfl⟩ := hx
      exact ⟨at2, d2, e2, true, v2, rfl, .inl ⟨HS0.out rfl, rfl⟩⟩
    | some p =>
      obtain ⟨a, t⟩ := p
      obtain ⟨at2, e2, v2, hle2, hdr2, hnote, rfl⟩ := hx
      exact ⟨at2, d, e2, false, v2, rfl, .inr ⟨a, hle2, rfl, rfl, HFA.out a t rfl, hnote, by rw [hdr2]; exact HS1.out a t rfl⟩⟩
  have HGOOD := Lib.hid hgood
  clear hgood hx HS1 HFA HS0 HR1 HRES HC
  go_upto_region 5 with (refine wpList_unit (o := ⟨none, Op.store 137 _ _, _, _, _, _⟩) rfl rfl (Instr.storeAt 137 _ _) rfl (blk_store (c' := rdC s (.slice na nl nc) (.slice va vl vc) at1 d1 e1 wr1) B1 size137 rfl rfl) ?_)
  obtain ⟨w5, hw5⟩ : ∃ w5, w5 = w4.setRow w.heap.size (rdC s (.slice na nl nc) (.slice va vl vc) at1 d1 e1 wr1) := ⟨_, rfl⟩
  have sw5 := setRow_stays w4 w.heap.size (rdC s (.slice na nl nc) (.slice va vl vc) at1 d1 e1 wr1)
  have B1w5 := setRow_heap w4 w.heap.size _ (rdC s (.slice na nl nc) (.slice va vl vc) at1 d1 e1 wr1) 137 B1
  rw [← hw5] at sw5 B1w5
  rw [← hw5]
  have l5 := l4.trans (sw5.below l4.size (fun j hj e => by have e' : j = w.heap.size := e; omega))
  have hzw5 := sw5.size
  replace B2 := B2.stays sw5 (by omega)
  replace B3 := B3.stays sw5 (by omega)
  replace B1 := B1w5
  clear hw5 B1w5 sw5
  go_loopg [7] (s.size - at1) (fun g v wr => ∃ va_ : Int, v = .int .i64 va_ ∧ Below w.heap.size w wr ∧ w.heap.size + 3 ≤ wr.heap.size ∧ Blk wr (w.heap.size + 1) #[.string ⟨#[]⟩, .slice none 0 0, .slice none 0 0, .int .i64 0, .int .i64 0, .int .i64 0, .bool false] 137 ∧ Blk wr (w.heap.size + 1 + 1) #[.string ⟨#[124]⟩, .string ⟨#[38]⟩, .string ⟨#[61, 60, 62]⟩, .string ⟨#[43, 45]⟩, .string ⟨#[42, 47, 37]⟩] 183 ∧ ((res = none ∧ ∃ (at2 d2 : Nat) (e2 : Int), Blk wr w.heap.size (rdC s (.slice na nl nc) (.slice va vl vc) at2 d2 e2 true) 137) ∨ ∃ (at2 : Nat) (e2 : Int) (a : Ex), at2 + g = s.size ∧ Blk wr w.heap.size (rdC s (.slice na nl nc) (.slice va vl vc) at2 d e2 false) 137 ∧ Fine a ∧ Note (scopeOf ns vs) e0 a e2 va_ ∧ ToGo (txt ops) sv sub 0 a ((txt s).drop at2) res))
  case atStart =>
    refine ⟨va1, rfl, l5, by omega, B2, B3, ?_⟩
    rcases HGOOD.out with ⟨h1, h2⟩ | ⟨a, h1, h2, h3, h4, h5, h6⟩
    · rw [h2] at B1; exact .inl ⟨h1, at1, d1, e1, B1⟩
    · rw [h2, h3] at B1; exact .inr ⟨at1, e1, a, by omega, B1, h4, h5, h6⟩
  case round =>
    clear B1 B2 B3 HGOOD
    obtain ⟨va_, rfl, lr, hzr, B2, B3, hst⟩ := hrel
    rcases hst with ⟨hrn, at2, d2, e2, B1⟩ | ⟨at2, e2, a, hg, B1, hfa, hnote, hto⟩
    · have HN := Lib.hid (isNext_wrong s ops at2)
      subst hrn
      have HI := Lib.hid (show Calls Tryz.prog 114 #[rdV s (.slice na nl nc) (.slice va vl vc) at2 d2 e2 true, .string ops] wr.drew (fun e w' => Below wr.heap.size wr w' ∧ e = .returned (.bool false)) from (isR_any s ops na va nl nc vl vc at2 d2 e2 true wr.drew hsz hosm).mono fun e w' h => ⟨(Below.refl _ wr).drew.trans (h.1.mono (Nat.le_refl _)), by rw [h.2, HN.out]⟩)
      obtain ⟨y0, y1, y2, y3, y4, y5, y6⟩ := rd_cells B1
      have c3 : wr.cell? ⟨w.heap.size + 1 + 1, n, none⟩ = some (.string ops) := (B3.cell n).trans hcell
      have HK := Lib.hid (show ∀ W, Below wr.heap.size wr W → (W.cell? ⟨w.heap.size, 0, none⟩ = some (.string s) ∧ W.cell? ⟨w.heap.size, 1, none⟩ = some (.slice na nl nc) ∧ W.cell? ⟨w.heap.size, 2, none⟩ = some (.slice va vl vc) ∧ W.cell? ⟨w.heap.size, 3, none⟩ = some (.int .i64 at2) ∧ W.cell? ⟨w.heap.size, 4, none⟩ = some (.int .i64 d2) ∧ W.cell? ⟨w.heap.size, 5, none⟩ = some (.int .i64 e2) ∧ W.cell? ⟨w.heap.size, 6, none⟩ = some (.bool true) ∧ W.cell? ⟨w.heap.size + 1 + 1, n, none⟩ = some (.string ops)) from fun W hW => ⟨cell_below y0 hW, cell_below y1 hW, cell_below y2 hW, cell_below y3 hW, cell_below y4 hW, cell_below y5 hW, cell_below y6 hW, cell_below c3 hW⟩)
      go_upto_region 5 with fail
      go_cut [31] (fun x wx => x = .bool false ∧ Below wr.heap.size wr wx)
      case first =>
        go_region_held3 (fun w' => w'.cell? ⟨w.heap.size, 0, none⟩ = some (.string s) ∧ w'.cell? ⟨w.heap.size, 1, none⟩ = some (.slice na nl nc) ∧ w'.cell? ⟨w.heap.size, 2, none⟩ = some (.slice va vl vc) ∧ w'.cell? ⟨w.heap.size, 3, none⟩ = some (.int .i64 at2) ∧ w'.cell? ⟨w.heap.size, 4, none⟩ = some (.int .i64 d2) ∧ w'.cell? ⟨w.heap.size, 5, none⟩ = some (.int .i64 e2) ∧ w'.cell? ⟨w.heap.size, 6, none⟩ = some (.bool true) ∧ w'.cell? ⟨w.heap.size + 1 + 1, n, none⟩ = some (.string ops)) (first | (with_reducible exact ⟨y0, y1, y2, y3, y4, y5, y6, c3⟩) | (refine HK.out _ ?_; repeat (first | assumption | (with_reducible exact Below.refl _ _) | (with_reducible apply Below.drew)))) (first | (go_at_call 114; (with_reducible refine HI.out.mono ?_); rintro ex w4 ⟨b4, rfl⟩))
        all_goals (go_wp2_with fail; go_meet; exact ⟨rfl, b4⟩)
      obtain ⟨rfl, bI⟩ := hcut
      have lI := lr.trans (bI.mono lr.size)
      have hzI := bI.size
      replace B1 := B1.below bI
      replace B2 := B2.below bI
      replace B3 := B3.below bI
      clear y0 y1 y2 y3 y4 y5 y6 c3 HI HK
      obtain ⟨y0, y1, y2, y3, y4, y5, y6⟩ := rd_cells B1
      go_wp2_with (refine wpList_unit (o := ⟨none, Op.store 137 _ _, _, _, _, _⟩) rfl rfl (Instr.storeAt 137 _ _) rfl (blk_store (c' := rdC s (.slice na nl nc) (.slice va vl vc) at2 d2 e2 true) B2 size137 rfl rfl) ?_)
      have hB9 := setRow_heap wc (w.heap.size + 1) _ (rdC s (.slice na nl nc) (.slice va vl vc) at2 d2 e2 true) 137 B2
      have hl9 := lI.trans ((setRow_stays wc (w.heap.size + 1) (rdC s (.slice na nl nc) (.slice va vl vc) at2 d2 e2 true)).below lI.size (fun j hj e => by have e' : j = w.heap.size + 1 := e; omega))
      obtain ⟨w9, hw9⟩ : ∃ w9, w9 = (wc).setRow (w.heap.size + 1) (rdC s (.slice na nl nc) (.slice va vl vc) at2 d2 e2 true) := ⟨_, rfl⟩
      rw [← hw9] at hB9 hl9
      rw [← hw9]
      obtain ⟨x0, x1, x2, x3, x4, x5, x6⟩ := rd_cells hB9
      refine ⟨rfl, .tuple #[rdV s (.slice na nl nc) (.slice va vl vc) at2 d2 e2 true, .int .i64 va_], ?_, hl9, at2, d2, e2, va_, rfl⟩
      simp [results, Tryz.results66, go_sem, x0, x1, x2, x3, x4, x5, x6]
    · have HTO := Lib.hid hto
      have HNO := Lib.hid hnote
      have HFA := Lib.hid hfa
      have hle2 : at2 ≤ s.size := by omega
      clear hto hnote hfa
      cases hin : isNext s ops at2 false with
      | false =>
        have HN := Lib.hid hin
        have hr : res = some (a, (txt s).drop at2) := ToGo.none HTO.out (by
          rcases Nat.lt_or_ge at2 s.size with h | h
          · refine .inr ⟨_, _, drop_byte h, ?_⟩
            rw [isNext_at h] at hin; exact hin
          · exact .inl (drop_end h))
        subst hr
        clear hin HTO
        have HI := Lib.hid (show Calls Tryz.prog 114 #[rdV s (.slice na nl nc) (.slice va vl vc) at2 d e2 false, .string ops] wr.drew (fun e w' => Below wr.heap.size wr w' ∧ e = .returned (.bool false)) from (isR_any s ops na va nl nc vl vc at2 d e2 false wr.drew hsz hosm).mono fun e w' h => ⟨(Below.refl _ wr).drew.trans (h.1.mono (Nat.le_refl _)), by rw [h.2, HN.out]⟩)
        obtain ⟨y0, y1, y2, y3, y4, y5, y6⟩ := rd_cells B1
        have c3 : wr.cell? ⟨w.heap.size + 1 + 1, n, none⟩ = some (.string ops) := (B3.cell n).trans hcell
        have HK := Lib.hid (show ∀ W, Below wr.heap.size wr W → (W.cell? ⟨w.heap.size, 0, none⟩ = some (.string s) ∧ W.cell? ⟨w.heap.size, 1, none⟩ = some (.slice na nl nc) ∧ W.cell? ⟨w.heap.size, 2, none⟩ = some (.slice va vl vc) ∧ W.cell? ⟨w.heap.size, 3, none⟩ = some (.int .i64 at2) ∧ W.cell? ⟨w.heap.size, 4, none⟩ = some (.int .i64 d) ∧ W.cell? ⟨w.heap.size, 5, none⟩ = some (.int .i64 e2) ∧ W.cell? ⟨w.heap.size, 6, none⟩ = some (.bool false) ∧ W.cell? ⟨w.heap.size + 1 + 1, n, none⟩ = some (.string ops)) from fun W hW => ⟨cell_below y0 hW, cell_below y1 hW, cell_below y2 hW, cell_below y3 hW, cell_below y4 hW, cell_below y5 hW, cell_below y6 hW, cell_below c3 hW⟩)
        go_upto_region 5 with fail
        go_cut [31] (fun x wx => x = .bool false ∧ Below wr.heap.size wr wx)
        case first =>
          go_region_held3 (fun w' => w'.cell? ⟨w.heap.size, 0, none⟩ = some (.string s) ∧ w'.cell? ⟨w.heap.size, 1, none⟩ = some (.slice na nl nc) ∧ w'.cell? ⟨w.heap.size, 2, none⟩ = some (.slice va vl vc) ∧ w'.cell? ⟨w.heap.size, 3, none⟩ = some (.int .i64 at2) ∧ w'.cell? ⟨w.heap.size, 4, none⟩ = some (.int .i64 d) ∧ w'.cell? ⟨w.heap.size, 5, none⟩ = some (.int .i64 e2) ∧ w'.cell? ⟨w.heap.size, 6, none⟩ = some (.bool false) ∧ w'.cell? ⟨w.heap.size + 1 + 1, n, none⟩ = some (.string ops)) (first | (with_reducible exact ⟨y0, y1, y2, y3, y4, y5, y6, c3⟩) | (refine HK.out _ ?_; repeat (first | assumption | (with_reducible exact Below.refl _ _) | (with_reducible apply Below.drew)))) (first | (go_at_call 114; (with_reducible refine HI.out.mono ?_); rintro ex w4 ⟨b4, rfl⟩))
          all_goals (go_wp2_with fail; go_meet; exact ⟨rfl, b4⟩)
        obtain ⟨rfl, bI⟩ := hcut
        have lI := lr.trans (bI.mono lr.size)
        have hzI := bI.size
        replace B1 := B1.below bI
        replace B2 := B2.below bI
        replace B3 := B3.below bI
        clear y0 y1 y2 y3 y4 y5 y6 c3 HI HK
        obtain ⟨y0, y1, y2, y3, y4, y5, y6⟩ := rd_cells B1
        go_wp2_with (refine wpList_unit (o := ⟨none, Op.store 137 _ _, _, _, _, _⟩) rfl rfl (Instr.storeAt 137 _ _) rfl (blk_store (c' := rdC s (.slice na nl nc) (.slice va vl vc) at2 d e2 false) B2 size137 rfl rfl) ?_)
        have hB9 := setRow_heap wc (w.heap.size + 1) _ (rdC s (.slice na nl nc) (.slice va vl vc) at2 d e2 false) 137 B2
        have hl9 := lI.trans ((setRow_stays wc (w.heap.size + 1) (rdC s (.slice na nl nc) (.slice va vl vc) at2 d e2 false)).below lI.size (fun j hj e => by have e' : j = w.heap.size + 1 := e; omega))
        obtain ⟨w9, hw9⟩ : ∃ w9, w9 = (wc).setRow (w.heap.size + 1) (rdC s (.slice na nl nc) (.slice va vl vc) at2 d e2 false) := ⟨_, rfl⟩
        rw [← hw9] at hB9 hl9
        rw [← hw9]
        obtain ⟨x0, x1, x2, x3, x4, x5, x6⟩ := rd_cells hB9
        refine ⟨rfl, .tuple #[rdV s (.slice na nl nc) (.slice va vl vc) at2 d e2 false, .int .i64 va_], ?_, hl9, at2, e2, va_, hle2, rfl, HNO.out, rfl⟩
        simp [results, Tryz.results66, go_sem, x0, x1, x2, x3, x4, x5, x6]
      | true =>
        have HN := Lib.hid hin
        have hlt : at2 < s.size := by
          rcases Nat.lt_or_ge at2 s.size with h | h
          · exact h
          · rw [isNext_end h] at hin; cases hin
        have hin2 : hasB ops (byteAt s at2) = true := by rw [isNext_at hlt] at hin; exact hin
        have hmemc := HME.out _ hin2
        rw [drop_byte hlt] at HTO
        have hby := byteAt_lt hlt
        obtain ⟨c, hc⟩ : ∃ c, c = byteAt s at2 := ⟨_, rfl⟩
        rw [← hc] at hin2 hmemc HTO hby
        have hbyn : s[at2].toNat = c.toNat := by rw [hby]
        have HIN := Lib.hid hin2
        have HMC := Lib.hid hmemc
        clear hin hin2 hmemc hby hc
        have HI := Lib.hid (show Calls Tryz.prog 114 #[rdV s (.slice na nl nc) (.slice va vl vc) at2 d e2 false, .string ops] wr.drew (fun e w' => Below wr.heap.size wr w' ∧ e = .returned (.bool true)) from (isR_any s ops na va nl nc vl vc at2 d e2 false wr.drew hsz hosm).mono fun e w' h => ⟨(Below.refl _ wr).drew.trans (h.1.mono (Nat.le_refl _)), by rw [h.2, HN.out]⟩)
        obtain ⟨y0, y1, y2, y3, y4, y5, y6⟩ := rd_cells B1
        have c3 : wr.cell? ⟨w.heap.size + 1 + 1, n, none⟩ = some (.string ops) := (B3.cell n).trans hcell
        have HK := Lib.hid (show ∀ W, Below wr.heap.size wr W → (W.cell? ⟨w.heap.size, 0, none⟩ = some (.string s) ∧ W.cell? ⟨w.heap.size, 1, none⟩ = some (.slice na nl nc) ∧ W.cell? ⟨w.heap.size, 2, none⟩ = some (.slice va vl vc) ∧ W.cell? ⟨w.heap.size, 3, none⟩ = some (.int .i64 at2) ∧ W.cell? ⟨w.heap.size, 4, none⟩ = some (.int .i64 d) ∧ W.cell? ⟨w.heap.size, 5, none⟩ = some (.int .i64 e2) ∧ W.cell? ⟨w.heap.size, 6, none⟩ = some (.bool false) ∧ W.cell? ⟨w.heap.size + 1 + 1, n, none⟩ = some (.string ops)) from fun W hW => ⟨cell_below y0 hW, cell_below y1 hW, cell_below y2 hW, cell_below y3 hW, cell_below y4 hW, cell_below y5 hW, cell_below y6 hW, cell_below c3 hW⟩)
        go_upto_region 5 with fail
        go_cut [31] (fun x wx => x = .bool true ∧ Below wr.heap.size wr wx)
        case first =>
          go_region_held3 (fun w' => w'.cell? ⟨w.heap.size, 0, none⟩ = some (.string s) ∧ w'.cell? ⟨w.heap.size, 1, none⟩ = some (.slice na nl nc) ∧ w'.cell? ⟨w.heap.size, 2, none⟩ = some (.slice va vl vc) ∧ w'.cell? ⟨w.heap.size, 3, none⟩ = some (.int .i64 at2) ∧ w'.cell? ⟨w.heap.size, 4, none⟩ = some (.int .i64 d) ∧ w'.cell? ⟨w.heap.size, 5, none⟩ = some (.int .i64 e2) ∧ w'.cell? ⟨w.heap.size, 6, none⟩ = some (.bool false) ∧ w'.cell? ⟨w.heap.size + 1 + 1, n, none⟩ = some (.string ops)) (first | (with_reducible exact ⟨y0, y1, y2, y3, y4, y5, y6, c3⟩) | (refine HK.out _ ?_; repeat (first | assumption | (with_reducible exact Below.refl _ _) | (with_reducible apply Below.drew)))) (first | (go_at_call 114; (with_reducible refine HI.out.mono ?_); rintro ex w4 ⟨b4, rfl⟩))
          all_goals (go_wp2_with fail; go_meet; exact ⟨rfl, b4⟩)
        obtain ⟨rfl, bI⟩ := hcut
        have lI := lr.trans (bI.mono lr.size)
        have hzI := bI.size
        replace B1 := B1.below bI
        replace B2 := B2.below bI
        replace B3 := B3.below bI
        clear y0 y1 y2 y3 y4 y5 y6 c3 HI HK
        obtain ⟨y0, y1, y2, y3, y4, y5, y6⟩ := rd_cells B1
        have f3 := B1.frozen 3
        obtain ⟨w6, hw6⟩ : ∃ w6, w6 = wc.setCell ⟨w.heap.size, 3, none⟩ (.int .i64 ((at2 : Int) + 1)) := ⟨_, rfl⟩
        have s6 : Stays (fun k => k = w.heap.size) wc w6 := by rw [hw6]; exact Stays.cell (.refl _ wc) 3 _
        have B16 : Blk w6 w.heap.size (rdC s (.slice na nl nc) (.slice va vl vc) (at2 + 1) d e2 false) 137 := by rw [hw6]; exact B1.set 3 (.int .i64 ((at2 : Int) + 1))
        have l6 := lI.trans (s6.below lI.size (fun j hj e => by have e' : j = w.heap.size := e; omega))
        have hz6 := s6.size
        replace B2 := B2.stays s6 (by omega)
        replace B3 := B3.stays s6 (by omega)
        have HW6 := Lib.hid hw6
        have hat2 : at2 + 1 ≤ 65537 := by omega
        clear hw6 s6
        go_upto_region 8 with fail
        rw [← HW6.out]
        clear y0 y1 y2 y3 y4 y5 y6 f3
        replace B1 := B16
        obtain ⟨y0, y1, y2, y3, y4, y5, y6⟩ := rd_cells B1
        go_wp2_with fail
        refine (HSUB.out w6 s na nl nc va vl vc ns vs (at2 + 1) e2 (HH.out.below l6) (by omega)).mono ?_
        rintro x w7 ⟨b7, hx⟩
        have l7 := l6.trans (b7.mono l6.size)
        have hz7 := b7.size
        replace B1 := B1.below b7
        replace B2 := B2.below b7
        replace B3 := B3.below b7
        clear y0 y1 y2 y3 y4 y5 y6
        cases hs2 : sub ((txt s).drop (at2 + 1)) with
        | none =>
          rw [hs2] at hx
          obtain ⟨at3, d3, e3, v3, rfl⟩ := hx
          have hrn : res = none := ToGo.fail HTO.out (.inl rfl) HIN.out hs2
          subst hrn
          clear hs2 HTO
          obtain ⟨w8, hw8⟩ : ∃ w8, w8 = w7.alloc (.cells (rdC s (.slice na nl nc) (.slice va vl vc) at3 d3 e3 true) 137) := ⟨_, rfl⟩
          have b8 : Below w7.heap.size w7 w8 := by rw [hw8]; exact (Below.refl _ _).alloc (Nat.le_refl _) _
          have BN : Blk w8 w7.heap.size (rdC s (.slice na nl nc) (.slice va vl vc) at3 d3 e3 true) 137 := by rw [hw8]; exact Blk.new _ _ _
          have l8 := l7.trans (b8.mono l7.size)
          replace B1 := B1.below b8
          replace B2 := B2.below b8
          replace B3 := B3.below b8
          have hz8 : w8.heap.size = w7.heap.size + 1 := by rw [hw8]; simp
          have HW8 := Lib.hid hw8
          clear hw8
          go_upto_region 9 with fail
          rw [← HW8.out]
          obtain ⟨y0, y1, y2, y3, y4, y5, y6⟩ := rd_cells BN
          go_upto_region 10 with (refine wpList_unit (o := ⟨none, Op.store 137 _ _, _, _, _, _⟩) rfl rfl (Instr.storeAt 137 _ _) rfl (blk_store (c' := rdC s (.slice na nl nc) (.slice va vl vc) at3 d3 e3 true) B1 size137 rfl rfl) ?_)
          obtain ⟨wv, hwv⟩ : ∃ wv, wv = w8.setRow w.heap.size (rdC s (.slice na nl nc) (.slice va vl vc) at3 d3 e3 true) := ⟨_, rfl⟩
          have swv := setRow_stays w8 w.heap.size (rdC s (.slice na nl nc) (.slice va vl vc) at3 d3 e3 true)
          have B1wv := setRow_heap w8 w.heap.size _ (rdC s (.slice na nl nc) (.slice va vl vc) at3 d3 e3 true) 137 B1
          rw [← hwv] at swv B1wv
          rw [← hwv]
          have l9 := l8.trans (swv.below l8.size (fun j hj e => by have e' : j = w.heap.size := e; omega))
          have hzwv := swv.size
          replace B2 := B2.stays swv (by omega)
          replace B3 := B3.stays swv (by omega)
          replace B1 := B1wv
          clear hwv B1wv swv
          clear y0 y1 y2 y3 y4 y5 y6 BN
          obtain ⟨y0, y1, y2, y3, y4, y5, y6⟩ := rd_cells B1
          by_cases he3 : e3 = 0
          · have d1 : (e3 == 0) = true := by simp [he3]
            clear he3
            cases sv with
            | true =>
              have hsv : ((n : Int) == 2) = false := hsev
              
              clear hsev
              go_wp2_with fail
              go_roundg (s.size - at2 - 1)
              case measure => omega
              case rel => exact ⟨va_, rfl, l9, by omega, B2, B3, .inl ⟨by trivial, at3, d3, e3, B1⟩⟩
            | false =>
              have hsv : ((n : Int) == 2) = true := hsev
              
              clear hsev
              go_wp2_with (refine wpList_unit (o := ⟨none, Op.store 137 _ _, _, _, _, _⟩) rfl rfl (Instr.storeAt 137 _ _) rfl (blk_store (c' := rdC s (.slice na nl nc) (.slice va vl vc) at3 d3 e3 true) B2 size137 rfl rfl) ?_)
              have hB9 := setRow_heap wv (w.heap.size + 1) _ (rdC s (.slice na nl nc) (.slice va vl vc) at3 d3 e3 true) 137 B2
              have hl9 := l9.trans ((setRow_stays wv (w.heap.size + 1) (rdC s (.slice na nl nc) (.slice va vl vc) at3 d3 e3 true)).below l9.size (fun j hj e => by have e' : j = w.heap.size + 1 := e; omega))
              obtain ⟨w9, hw9⟩ : ∃ w9, w9 = (wv).setRow (w.heap.size + 1) (rdC s (.slice na nl nc) (.slice va vl vc) at3 d3 e3 true) := ⟨_, rfl⟩
              rw [← hw9] at hB9 hl9
              rw [← hw9]
              obtain ⟨x0, x1, x2, x3, x4, x5, x6⟩ := rd_cells hB9
              refine ⟨rfl, .tuple #[rdV s (.slice na nl nc) (.slice va vl vc) at3 d3 e3 true, .int .i64 va_], ?_, hl9, at3, d3, e3, va_, rfl⟩
              simp [results, Tryz.results66, go_sem, x0, x1, x2, x3, x4, x5, x6]
          · have d1 : (e3 == 0) = false := by simp [he3]
            clear he3
            cases sv with
            | true =>
              have hsv : ((n : Int) == 2) = false := hsev
              
              clear hsev
              go_wp2_with fail
              go_roundg (s.size - at2 - 1)
              case measure => omega
              case rel => exact ⟨va_, rfl, l9, by omega, B2, B3, .inl ⟨by trivial, at3, d3, e3, B1⟩⟩
            | false =>
              have hsv : ((n : Int) == 2) = true := hsev
              
              clear hsev
              go_wp2_with (refine wpList_unit (o := ⟨none, Op.store 137 _ _, _, _, _, _⟩) rfl rfl (Instr.storeAt 137 _ _) rfl (blk_store (c' := rdC s (.slice na nl nc) (.slice va vl vc) at3 d3 e3 true) B2 size137 rfl rfl) ?_)
              have hB9 := setRow_heap wv (w.heap.size + 1) _ (rdC s (.slice na nl nc) (.slice va vl vc) at3 d3 e3 true) 137 B2
              have hl9 := l9.trans ((setRow_stays wv (w.heap.size + 1) (rdC s (.slice na nl nc) (.slice va vl vc) at3 d3 e3 true)).below l9.size (fun j hj e => by have e' : j = w.heap.size + 1 := e; omega))
              obtain ⟨w9, hw9⟩ : ∃ w9, w9 = (wv).setRow (w.heap.size + 1) (rdC s (.slice na nl nc) (.slice va vl vc) at3 d3 e3 true) := ⟨_, rfl⟩
              rw [← hw9] at hB9 hl9
              rw [← hw9]
              obtain ⟨x0, x1, x2, x3, x4, x5, x6⟩ := rd_cells hB9
              refine ⟨rfl, .tuple #[rdV s (.slice na nl nc) (.slice va vl vc) at3 d3 e3 true, .int .i64 va_], ?_, hl9, at3, d3, e3, va_, rfl⟩
              simp [results, Tryz.results66, go_sem, x0, x1, x2, x3, x4, x5, x6]
        | some p =>
          obtain ⟨b, t⟩ := p
          rw [hs2] at hx
          obtain ⟨at3, e3, v3, hle3, hdr3, hnb, rfl⟩ := hx
          have htg := ToGo.next HEAT.out HTO.out (.inl rfl) HIN.out hs2
          have hlen : s.size - at3 < s.size - (at2 + 1) := by
            have h1 := HEAT.out _ _ _ hs2
            rw [← hdr3] at h1
            simpa using h1
          have hfb := HFI.out _ _ _ hs2
          rw [← hdr3] at htg
          have HTG := Lib.hid htg
          have HFB := Lib.hid hfb
          have HNB := Lib.hid hnb
          have HLE := Lib.hid hlen
          clear hs2 HTO htg hfb hnb hdr3 hlen
          obtain ⟨w8, hw8⟩ : ∃ w8, w8 = w7.alloc (.cells (rdC s (.slice na nl nc) (.slice va vl vc) at3 d e3 false) 137) := ⟨_, rfl⟩
          have b8 : Below w7.heap.size w7 w8 := by rw [hw8]; exact (Below.refl _ _).alloc (Nat.le_refl _) _
          have BN : Blk w8 w7.heap.size (rdC s (.slice na nl nc) (.slice va vl vc) at3 d e3 false) 137 := by rw [hw8]; exact Blk.new _ _ _
          have l8 := l7.trans (b8.mono l7.size)
          replace B1 := B1.below b8
          replace B2 := B2.below b8
          replace B3 := B3.below b8
          have hz8 : w8.heap.size = w7.heap.size + 1 := by rw [hw8]; simp
          have HW8 := Lib.hid hw8
          clear hw8
          go_upto_region 9 with fail
          rw [← HW8.out]
          obtain ⟨y0, y1, y2, y3, y4, y5, y6⟩ := rd_cells BN
          go_upto_region 10 with (refine wpList_unit (o := ⟨none, Op.store 137 _ _, _, _, _, _⟩) rfl rfl (Instr.storeAt 137 _ _) rfl (blk_store (c' := rdC s (.slice na nl nc) (.slice va vl vc) at3 d e3 false) B1 size137 rfl rfl) ?_)
          obtain ⟨wv, hwv⟩ : ∃ wv, wv = w8.setRow w.heap.size (rdC s (.slice na nl nc) (.slice va vl vc) at3 d e3 false) := ⟨_, rfl⟩
          have swv := setRow_stays w8 w.heap.size (rdC s (.slice na nl nc) (.slice va vl vc) at3 d e3 false)
          have B1wv := setRow_heap w8 w.heap.size _ (rdC s (.slice na nl nc) (.slice va vl vc) at3 d e3 false) 137 B1
          rw [← hwv] at swv B1wv
          rw [← hwv]
          have l9 := l8.trans (swv.below l8.size (fun j hj e => by have e' : j = w.heap.size := e; omega))
          have hzwv := swv.size
          replace B2 := B2.stays swv (by omega)
          replace B3 := B3.stays swv (by omega)
          replace B1 := B1wv
          clear hwv B1wv swv
          clear y0 y1 y2 y3 y4 y5 y6 BN
          obtain ⟨y0, y1, y2, y3, y4, y5, y6⟩ := rd_cells B1
          by_cases he3 : e3 = 0
          · have d1 : (e3 == 0) = true := by simp [he3]
            obtain ⟨hz3, hvb⟩ := HNB.out.zero he3
            obtain ⟨hz2, hva⟩ := HNO.out.zero hz3
            have hAP := Lib.hid (fun W => applyR_any c va_ v3 W HMC.out (eval_within HFA.out hva) (eval_within HFB.out hvb))
            have HNA := Lib.hid (fun x ok h => Note.apply (x := x) (ok := ok) c HNO.out HNB.out he3 h)
            have HE3 := Lib.hid he3
            clear he3 hz3 hvb hz2 hva
            go_wp2_with fail
            refine (hAP.out wv).mono ?_
            rintro x wz ⟨rfl, v4, ok, rfl, hap⟩
            have hnn := HNA.out v4 ok hap
            clear hap HNA hAP
            cases ok with
            | true =>
              have hnn2 : Note (scopeOf ns vs) e0 (.bin c a b) e3 v4 := by rw [HE3.out]; simpa using hnn
              have HN4 := Lib.hid hnn2
              clear hnn hnn2
              go_upto_region 15 with fail
              cases sv with
              | true =>
                have hsv : ((n : Int) == 2) = false := hsev
                have HTG2 := Lib.hid (show ToGo (txt ops) true sub 0 (.bin c a b) ((txt s).drop at3) res from by have := HTG.out; unfold ToGo at this ⊢; rw [if_pos (.inr rfl)] at this ⊢; exact this)
                clear hsev
                go_wp2_with fail
                go_roundg (s.size - at3)
                case measure => have := HLE.out; omega
                case rel => exact ⟨v4, rfl, l9, by omega, B2, B3, .inr ⟨at3, e3, .bin c a b, by omega, B1, .bin _ HFA.out HFB.out, HN4.out, HTG2.out⟩⟩
              | false =>
                have hsv : ((n : Int) == 2) = true := hsev
                have hre : res = some (.bin c a b, (txt s).drop at3) := HTG.out.stop (by simp)
                subst hre
                clear hsev
                obtain ⟨y0, y1, y2, y3, y4, y5, y6⟩ := rd_cells B1
                go_wp2_with (refine wpList_unit (o := ⟨none, Op.store 137 _ _, _, _, _, _⟩) rfl rfl (Instr.storeAt 137 _ _) rfl (blk_store (c' := rdC s (.slice na nl nc) (.slice va vl vc) at3 d e3 false) B2 size137 rfl rfl) ?_)
                have hB9 := setRow_heap wz (w.heap.size + 1) _ (rdC s (.slice na nl nc) (.slice va vl vc) at3 d e3 false) 137 B2
                have hl9 := l9.trans ((setRow_stays wz (w.heap.size + 1) (rdC s (.slice na nl nc) (.slice va vl vc) at3 d e3 false)).below l9.size (fun j hj e => by have e' : j = w.heap.size + 1 := e; omega))
                obtain ⟨w9, hw9⟩ : ∃ w9, w9 = (wz).setRow (w.heap.size + 1) (rdC s (.slice na nl nc) (.slice va vl vc) at3 d e3 false) := ⟨_, rfl⟩
                rw [← hw9] at hB9 hl9
                rw [← hw9]
                obtain ⟨x0, x1, x2, x3, x4, x5, x6⟩ := rd_cells hB9
                refine ⟨rfl, .tuple #[rdV s (.slice na nl nc) (.slice va vl vc) at3 d e3 false, .int .i64 v4], ?_, hl9, at3, e3, v4, hle3, rfl, HN4.out, rfl⟩
                simp [results, Tryz.results66, go_sem, x0, x1, x2, x3, x4, x5, x6]
            | false =>
              have hnn2 : Note (scopeOf ns vs) e0 (.bin c a b) 101 v4 := by simpa using hnn
              have HN4 := Lib.hid hnn2
              clear hnn hnn2
              go_wp2_with fail
              refine (failR_any s na va nl nc vl vc at3 d e3 101 false wz).mono ?_
              rintro x wf ⟨bf, rfl⟩
              rw [if_pos HE3.out]
              have lf := l9.trans (bf.mono l9.size)
              have hzf := bf.size
              replace B1 := B1.below bf
              replace B2 := B2.below bf
              replace B3 := B3.below bf
              clear y0 y1 y2 y3 y4 y5 y6
              go_upto_region 14 with (refine wpList_unit (o := ⟨none, Op.store 137 _ _, _, _, _, _⟩) rfl rfl (Instr.storeAt 137 _ _) rfl (blk_store (c' := rdC s (.slice na nl nc) (.slice va vl vc) at3 d 101 false) B1 size137 rfl rfl) ?_)
              obtain ⟨wg, hwg⟩ : ∃ wg, wg = wf.setRow w.heap.size (rdC s (.slice na nl nc) (.slice va vl vc) at3 d 101 false) := ⟨_, rfl⟩
              have swg := setRow_stays wf w.heap.size (rdC s (.slice na nl nc) (.slice va vl vc) at3 d 101 false)
              have B1wg := setRow_heap wf w.heap.size _ (rdC s (.slice na nl nc) (.slice va vl vc) at3 d 101 false) 137 B1
              rw [← hwg] at swg B1wg
              rw [← hwg]
              have lg := lf.trans (swg.below lf.size (fun j hj e => by have e' : j = w.heap.size := e; omega))
              have hzwg := swg.size
              replace B2 := B2.stays swg (by omega)
              replace B3 := B3.stays swg (by omega)
              replace B1 := B1wg
              clear hwg B1wg swg
              go_upto_region 15 with fail
              cases sv with
              | true =>
                have hsv : ((n : Int) == 2) = false := hsev
                have HTG2 := Lib.hid (show ToGo (txt ops) true sub 0 (.bin c a b) ((txt s).drop at3) res from by have := HTG.out; unfold ToGo at this ⊢; rw [if_pos (.inr rfl)] at this ⊢; exact this)
                clear hsev
                go_wp2_with fail
                go_roundg (s.size - at3)
                case measure => have := HLE.out; omega
                case rel => exact ⟨v4, rfl, lg, by omega, B2, B3, .inr ⟨at3, 101, .bin c a b, by omega, B1, .bin _ HFA.out HFB.out, HN4.out, HTG2.out⟩⟩
              | false =>
                have hsv : ((n : Int) == 2) = true := hsev
                have hre : res = some (.bin c a b, (txt s).drop at3) := HTG.out.stop (by simp)
                subst hre
                clear hsev
                obtain ⟨y0, y1, y2, y3, y4, y5, y6⟩ := rd_cells B1
                go_wp2_with (refine wpList_unit (o := ⟨none, Op.store 137 _ _, _, _, _, _⟩) rfl rfl (Instr.storeAt 137 _ _) rfl (blk_store (c' := rdC s (.slice na nl nc) (.slice va vl vc) at3 d 101 false) B2 size137 rfl rfl) ?_)
                have hB9 := setRow_heap wg (w.heap.size + 1) _ (rdC s (.slice na nl nc) (.slice va vl vc) at3 d 101 false) 137 B2
                have hl9 := lg.trans ((setRow_stays wg (w.heap.size + 1) (rdC s (.slice na nl nc) (.slice va vl vc) at3 d 101 false)).below lg.size (fun j hj e => by have e' : j = w.heap.size + 1 := e; omega))
                obtain ⟨w9, hw9⟩ : ∃ w9, w9 = (wg).setRow (w.heap.size + 1) (rdC s (.slice na nl nc) (.slice va vl vc) at3 d 101 false) := ⟨_, rfl⟩
                rw [← hw9] at hB9 hl9
                rw [← hw9]
                obtain ⟨x0, x1, x2, x3, x4, x5, x6⟩ := rd_cells hB9
                refine ⟨rfl, .tuple #[rdV s (.slice na nl nc) (.slice va vl vc) at3 d 101 false, .int .i64 v4], ?_, hl9, at3, 101, v4, hle3, rfl, HN4.out, rfl⟩
                simp [results, Tryz.results66, go_sem, x0, x1, x2, x3, x4, x5, x6]
          · have d1 : (e3 == 0) = false := by simp [he3]
            have HN4 := Lib.hid (show Note (scopeOf ns vs) e0 (.bin c a b) e3 va_ from Note.bin c HNO.out HNB.out he3 va_)
            clear he3
            go_upto_region 15 with fail
            cases sv with
            | true =>
              have hsv : ((n : Int) == 2) = false := hsev
              have HTG2 := Lib.hid (show ToGo (txt ops) true sub 0 (.bin c a b) ((txt s).drop at3) res from by have := HTG.out; unfold ToGo at this ⊢; rw [if_pos (.inr rfl)] at this ⊢; exact this)
              clear hsev
              go_wp2_with fail
              go_roundg (s.size - at3)
              case measure => have := HLE.out; omega
              case rel => exact ⟨va_, rfl, l9, by omega, B2, B3, .inr ⟨at3, e3, .bin c a b, by omega, B1, .bin _ HFA.out HFB.out, HN4.out, HTG2.out⟩⟩
            | false =>
              have hsv : ((n : Int) == 2) = true := hsev
              have hre : res = some (.bin c a b, (txt s).drop at3) := HTG.out.stop (by simp)
              subst hre
              clear hsev
              obtain ⟨y0, y1, y2, y3, y4, y5, y6⟩ := rd_cells B1
              go_wp2_with (refine wpList_unit (o := ⟨none, Op.store 137 _ _, _, _, _, _⟩) rfl rfl (Instr.storeAt 137 _ _) rfl (blk_store (c' := rdC s (.slice na nl nc) (.slice va vl vc) at3 d e3 false) B2 size137 rfl rfl) ?_)
              have hB9 := setRow_heap wv (w.heap.size + 1) _ (rdC s (.slice na nl nc) (.slice va vl vc) at3 d e3 false) 137 B2
              have hl9 := l9.trans ((setRow_stays wv (w.heap.size + 1) (rdC s (.slice na nl nc) (.slice va vl vc) at3 d e3 false)).below l9.size (fun j hj e => by have e' : j = w.heap.size + 1 := e; omega))
              obtain ⟨w9, hw9⟩ : ∃ w9, w9 = (wv).setRow (w.heap.size + 1) (rdC s (.slice na nl nc) (.slice va vl vc) at3 d e3 false) := ⟨_, rfl⟩
              rw [← hw9] at hB9 hl9
              rw [← hw9]
              obtain ⟨x0, x1, x2, x3, x4, x5, x6⟩ := rd_cells hB9
              refine ⟨rfl, .tuple #[rdV s (.slice na nl nc) (.slice va vl vc) at3 d e3 false, .int .i64 va_], ?_, hl9, at3, e3, va_, hle3, rfl, HN4.out, rfl⟩
              simp [results, Tryz.results66, go_sem, x0, x1, x2, x3, x4, x5, x6]
end Go.Proofs.YtddnmocoaahlfaaGreatDoor
namespace Go.Proofs.YtddnmocoaahlfaaGreatDoor
open Go.RowKit
theorem binaryR {d : Nat} {f : Reads} (hf : SignR d f) (he : Eats f) (hi : Fines f) : ∀ k n, n + k = 5 → LevelR d n (binaryE f (grammar.drop n))
  | 0, n, h => by
    obtain rfl : n = 5 := by omega
    exact level_last hf
  | k + 1, n, h => by
    obtain ⟨ops, sv, ho⟩ := opsAt n (by omega)
    have ih := binaryR hf he hi k (n + 1) (by omega)
    rw [ho.gr]
    exact level_step ho ih (binaryE_eats he _) (binaryE_fine hi _)
theorem exprR : ∀ k d, d + k = 16 → LevelR d 0 (exprE k)
  | 0, d, h => by
    obtain rfl : d = 16 := by omega
    have hp := primR_all (d := 16) (Nat.le_refl _) (g := exprE 0) (fun h => absurd h (by decide))
    rw [if_neg (by decide)] at hp
    have hpe : Eats (primE none) := primE_eats (by intro f h; cases h)
    have hpf : Fines (primE none) := primE_fine (by intro f h; cases h)
    exact binaryR (signR_all hp hpf) (signE_eats hpe) (signE_fine hpf) 5 0 rfl
  | k + 1, d, h => by
    have hp := primR_all (d := d) (by omega) (g := exprE k) (fun h16 => exprR k (d + 1) (by omega))
    rw [if_pos (by omega)] at hp
    have hpe : Eats (primE (some (exprE k))) := primE_eats (by intro f h; injection h with h; exact h ▸ exprE_eats k)
    have hpf : Fines (primE (some (exprE k))) := primE_fine (by intro f h; injection h with h; exact h ▸ exprE_fine k)
    exact binaryR (signR_all hp hpf) (signE_eats hpe) (signE_fine hpf) 5 0 rfl
theorem exprR16 : LevelR 0 0 (exprE 16) := exprR 16 0 rfl
theorem evalT_none {t : List UInt8} {σ : List UInt8 → Option Int} (h : exprE 16 t = none) : evalT t σ = (0, 4) := by
  unfold evalT parseE; rw [h]
theorem evalT_rest {t u : List UInt8} {x : Ex} {σ : List UInt8 → Option Int} (h : exprE 16 t = some (x, u)) (hu : u ≠ []) : evalT t σ = (0, 4) := by
  unfold evalT parseE; rw [h]
  cases u with
  | nil => exact absurd rfl hu
  | cons a b => rfl
theorem evalT_all {t : List UInt8} {x : Ex} {σ : List UInt8 → Option Int} {e v : Int} (h : exprE 16 t = some (x, [])) (hn : Note σ 0 x e v) : evalT t σ = if e = 0 then (v, 0) else (0, e) := by
  unfold evalT parseE; rw [h]
  simp only
  unfold Note at hn
  rw [if_pos rfl] at hn
  cases hx : x.eval σ with
  | ok y => rw [hx] at hn; simp only at hn ⊢; rw [if_pos hn.1, hn.2]
  | error k =>
    rw [hx] at hn
    simp only at hn ⊢
    have := eval_err hx
    rw [if_neg (by omega), hn]
set_option maxHeartbeats 4000000 in
theorem evalR_any {w : World} {s : ByteArray} {na va : Option Addr} {nl nc vl vc : Nat} {ns : List ByteArray} {vs : List Int} (h : RdH w s na nl nc va vl vc ns vs) :
    Calls Tryz.prog 35 #[.string s, .slice na nl nc, .slice va vl vc] w (RetE w (evalT (txt s) (scopeOf ns vs))) := by
  have HC := Lib.hid (exprR16 w s na nl nc va vl vc ns vs 0 0 h (Nat.zero_le _))
  rw [List.drop_zero] at HC
  obtain ⟨r, hr⟩ : ∃ r, r = evalT (txt s) (scopeOf ns vs) := ⟨_, rfl⟩
  rw [← hr]
  unfold RetE
  have HR := Lib.hid hr
  have hsz := h.sz
  clear hr h
  go_enter Tryz.func35, Tryz.ntmps35
  go_wp2_with fail
  refine HC.out.mono ?_
  rintro x w1 ⟨b1, hx⟩
  clear HC
  cases he : exprE 16 (txt s) with
  | none =>
    rw [he] at hx
    obtain ⟨at2, d2, e2, v2, rfl⟩ := hx
    have hrr : r = (0, 4) := HR.out.trans (evalT_none he)
    subst hrr
    have HB := Lib.hid (b1.trans ((Below.refl w1.heap.size w1).alloc (Nat.le_refl _) (.cells (rdC s (.slice na nl nc) (.slice va vl vc) at2 d2 e2 true) 137) |>.mono b1.size))
    clear he HR
    go_wp2_with fail
    go_ret2
    exact ⟨HB.out, rfl⟩
  | some p =>
    obtain ⟨y, t⟩ := p
    rw [he] at hx
    obtain ⟨at2, e2, v2, hle2, hdr2, hnote, rfl⟩ := hx
    have HB := Lib.hid (b1.trans ((Below.refl w1.heap.size w1).alloc (Nat.le_refl _) (.cells (rdC s (.slice na nl nc) (.slice va vl vc) at2 0 e2 false) 137) |>.mono b1.size))
    by_cases hend : at2 = s.size
    · have ht : t = [] := by rw [← hdr2, hend]; exact drop_end (Nat.le_refl _)
      subst ht
      have hrr := HR.out.trans (evalT_all he hnote)
      have d1 : ((at2 : Int) != (s.size : Int)) = false := by simp [hend]
      clear he HR hdr2 hnote hend hle2
      by_cases h0 : e2 = 0
      · rw [if_pos h0] at hrr
        subst hrr
        have d2 : (e2 != 0) = false := by simp [h0]
        clear h0
        go_wp2_with fail
        go_ret2
        exact ⟨HB.out, rfl⟩
      · rw [if_neg h0] at hrr
        subst hrr
        have d2 : (e2 != 0) = true := by simp [h0]
        clear h0
        go_wp2_with fail
        go_quiet (fail)
        go_wp2_with fail
        go_ret2
        exact ⟨HB.out.trans ((drewN_below _ _).mono HB.out.size), rfl⟩
    · have ht : t ≠ [] := by
        intro e
        rw [e] at hdr2
        have := congrArg List.length hdr2
        simp at this
        omega
      have hrr := HR.out.trans (evalT_rest he ht)
      subst hrr
      have d1 : ((at2 : Int) != (s.size : Int)) = true := by simp; omega
      clear he HR hdr2 hnote hend hle2 ht
      go_wp2_with fail
      go_ret2
      exact ⟨HB.out, rfl⟩
end Go.Proofs.YtddnmocoaahlfaaGreatDoor
