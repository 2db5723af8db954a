/-
  The law's own check of a number, and the reference's number texts: Number writes the decimal text. No condition but that the number is an int.
-/
import Derived.Test.YtddnmocoaahlfaaGreatDoorBase
import Derived.Test.YtddnmocoaahlfaaGreatDoorTxt
import Derived.Lib.ItoaLen
set_option linter.unusedVariables false
set_option linter.unusedSimpArgs false
namespace Go.Proofs.YtddnmocoaahlfaaGreatDoor
open Go.RowKit

theorem within_any (n : Int) (w : World) : Calls Tryz.prog 32 #[.int .i64 n] w fun e w' => e = .returned (.bool (decide (Within n))) ∧ w' = w := by
  by_cases h1 : -9007199254740992 ≤ n
  · have d1 : decide (n ≥ -9007199254740992) = true := decide_eq_true h1
    by_cases h2 : n ≤ 9007199254740992
    · have d2 : decide (n ≤ 9007199254740992) = true := decide_eq_true h2
      have d3 : decide (Within n) = true := decide_eq_true ⟨h1, h2⟩
      rw [d3]
      go_enter Tryz.func32, Tryz.ntmps32
      go_wp2_with fail
      go_ret
      exact ⟨rfl, rfl⟩
    · have d2 : decide (n ≤ 9007199254740992) = false := decide_eq_false h2
      have d3 : decide (Within n) = false := decide_eq_false fun h => h2 h.2
      rw [d3]
      go_enter Tryz.func32, Tryz.ntmps32
      go_wp2_with fail
      go_ret
      exact ⟨rfl, rfl⟩
  · have d1 : decide (n ≥ -9007199254740992) = false := decide_eq_false h1
    have d3 : decide (Within n) = false := decide_eq_false fun h => h1 h.1
    rw [d3]
    go_enter Tryz.func32, Tryz.ntmps32
    go_wp2_with fail
    go_ret
    exact ⟨rfl, rfl⟩

def dig10 (u : Nat) : List UInt8 := if u = 0 then [] else Lib.decDigits u
theorem dig10_step {u : Nat} (h : u ≠ 0) : dig10 u = dig10 (u / 10) ++ [UInt8.ofNat (48 + u % 10)] := by
  unfold dig10
  rw [if_neg h, Lib.decDigits]
  split
  · rw [if_pos (by omega)]
    rw [Nat.mod_eq_of_lt (by assumption)]; rfl
  · rw [if_neg (by omega)]
def dig10s : ByteArray := ⟨#[48, 49, 50, 51, 52, 53, 54, 55, 56, 57]⟩
theorem dig10s_cut : ∀ i : Fin 10, txt (dig10s.extract i.val (i.val + 1)) = [UInt8.ofNat (48 + i.val)] := by decide +kernel
theorem dig10_len {u : Nat} (h : u ≤ 9223372036854775808) : (dig10 u).length ≤ 20 := by
  unfold dig10
  split
  · simp
  · rw [Lib.decDigits_length]; exact Lib.nDigits_le20 u (by omega)
theorem cat9 {a b : ByteArray} (h : a.size + b.size ≤ 9223372036854775807) : Op.stringOp .add a b = pure (.string (a ++ b)) := by
  unfold Op.stringOp
  exact if_neg (show ¬ (((a.size + b.size : Nat) : Int) > 9223372036854775807) by omega)
theorem txt_append9 (a b : ByteArray) : txt (a ++ b) = txt a ++ txt b := by simp
theorem itoa_dig {n : Int} (h : n ≠ 0) : Lib.itoa n = if n < 0 then 45 :: dig10 n.natAbs else dig10 n.natAbs := by
  have hz : dig10 n.natAbs = Lib.decDigits n.natAbs := by unfold dig10; rw [if_neg (by omega)]
  rw [hz]
  unfold Lib.itoa
  split
  · rfl
  · rw [show n.toNat = n.natAbs by omega]
set_option maxHeartbeats 4000000 in
theorem number_any {n : Int} (hn : I64 n) (w : World) : Calls Tryz.prog 33 #[.int .i64 n] w fun e w' => ∃ s : ByteArray, e = .returned (.string s) ∧ txt s = Lib.itoa n ∧ w' = w := by
  have hn1 := hn.1
  have hn2 := hn.2
  by_cases h0 : n = 0
  · subst h0
    go_enter Tryz.func33, Tryz.ntmps33
    go_wp2_with fail
    go_ret
    exact ⟨_, rfl, by rw [Lib.itoa, if_neg (by decide), show (0 : Int).toNat = 0 from rfl, Lib.decDigits, dif_pos (by decide)]; rfl, rfl⟩
  · have z0 : (n == 0) = false := by simpa using h0
    go_enter Tryz.func33, Tryz.ntmps33
    go_wp2_with fail
    go_loop [4, 3] (fun t v => ∃ (x : Int) (sp : ByteArray), t = .int .i64 x ∧ v = .string sp ∧ I64 x ∧ (0 < n → 0 ≤ x) ∧ (n < 0 → x ≤ 0) ∧ dig10 x.natAbs ++ txt sp = dig10 n.natAbs) (fun t v => (intOf t).natAbs)
    case atStart => exact ⟨n, _, rfl, rfl, hn, fun h => by omega, fun h => by omega, by simp⟩
    case round =>
      obtain ⟨x, sp, rfl, rfl, hx, hp, hm, hsp⟩ := hrel
      have HSP := Lib.hid hsp
      clear hsp
      by_cases hx0 : x = 0
      · have z1 : (x != 0) = false := by simp [hx0]
        have hfin : txt sp = dig10 n.natAbs := by have := HSP.out; rw [hx0] at this; simpa [dig10] using this
        have HF := Lib.hid hfin
        clear hfin
        have hsz : sp.size ≤ 20 := by
          have : (txt sp).length = sp.size := by simp
          rw [← this, HF.out]; exact dig10_len (by omega)
        by_cases hneg : n < 0
        · have dn : decide (n < 0) = true := decide_eq_true hneg
          have hc := cat9 (a := ⟨#[45]⟩) (b := sp) (by have : (⟨#[45]⟩ : ByteArray).size = 1 := rfl; omega)
          go_wp2_with fail
          go_ret
          refine ⟨_, rfl, ?_, rfl⟩
          rw [itoa_dig h0, if_pos hneg, ← HF.out]; simp
        · have dn : decide (n < 0) = false := decide_eq_false hneg
          go_wp2_with fail
          go_ret
          refine ⟨_, rfl, ?_, rfl⟩
          rw [itoa_dig h0, if_neg (by omega), ← HF.out]
      · have z1 : (x != 0) = true := by simp [hx0]
        have hst := HSP.out
        rw [dig10_step (by omega)] at hst
        have HST := Lib.hid hst
        have hsz : sp.size ≤ 20 := by
          have h1 : (txt sp).length = sp.size := by simp
          have h2 := congrArg List.length HSP.out
          rw [List.length_append] at h2
          have := dig10_len (u := n.natAbs) (by omega)
          omega
        clear hst
        obtain ⟨u, hu⟩ : ∃ u : Nat, x.natAbs = u := ⟨_, rfl⟩
        have hcut : txt (dig10s.extract (u % 10) (u % 10 + 1)) = [UInt8.ofNat (48 + u % 10)] := dig10s_cut ⟨u % 10, Nat.mod_lt _ (by decide)⟩
        have hcs : (dig10s.extract (u % 10) (u % 10 + 1)).size = 1 := by
          have : (txt (dig10s.extract (u % 10) (u % 10 + 1))).length = (dig10s.extract (u % 10) (u % 10 + 1)).size := by simp
          rw [← this, hcut]; rfl
        have hc := cat9 (a := dig10s.extract (u % 10) (u % 10 + 1)) (b := sp) (by omega)
        have hu64 : u ≤ 9223372036854775808 := by have := hx.1; have := hx.2; omega
        have hend : dig10 (u / 10) ++ txt (dig10s.extract (u % 10) (u % 10 + 1) ++ sp) = dig10 n.natAbs := by
          rw [← HST.out, hu, txt_append9, hcut, List.append_assoc]
        unfold dig10s at hc hend
        have HE := Lib.hid hend
        clear hend hcut hcs HST HSP
        by_cases hs : x < 0
        · obtain rfl : x = -(u : Int) := by omega
          by_cases hd : u % 10 = 0
          · have hz : -((u : Int) % 10) = ((u % 10 : Nat) : Int) := by omega
            go_wp2_with fail
            have he := HE.out
            rw [hd] at he
            refine ⟨⟨-((u / 10 : Nat) : Int), _, congrArg (fun y => Value.int .i64 (-y)) (show (u : Int) / 10 = ((u / 10 : Nat) : Int) by omega), rfl, ⟨by omega, by omega⟩, fun h => by have := hp h; omega, fun _ => by omega, ?_⟩, by simp only [intOf]; omega⟩
            rw [Int.natAbs_neg]; exact he
          · go_wp2_with fail
            refine ⟨⟨-((u / 10 : Nat) : Int), _, congrArg (fun y => Value.int .i64 (-y)) (show (u : Int) / 10 = ((u / 10 : Nat) : Int) by omega), rfl, ⟨by omega, by omega⟩, fun h => by have := hp h; omega, fun _ => by omega, ?_⟩, by simp only [intOf]; omega⟩
            rw [Int.natAbs_neg]; exact HE.out
        · obtain rfl : x = (u : Int) := by omega
          go_wp2_with fail
          refine ⟨⟨((u / 10 : Nat) : Int), _, congrArg _ (show (u : Int) / 10 = ((u / 10 : Nat) : Int) by omega), rfl, ⟨by omega, by omega⟩, fun _ => by omega, fun h => by have := hm h; omega, ?_⟩, by simp only [intOf]; omega⟩
          exact HE.out
end Go.Proofs.YtddnmocoaahlfaaGreatDoor
