/-
  The contract of the program's norm. No condition.
-/
import Derived.Test.YtppbhjhbaknidaaBase
namespace Go.Proofs.Ytppbhjhbaknidaa
open Go.RowKit

def RetSl (K : IntKind) (w : World) (xs : List Nat) (e : Ending) (w' : World) : Prop := ∃ v, e = .returned v ∧ Sl w' K v xs ∧ Below w.heap.size w w'

theorem Sl.cut {w : World} {K : IntKind} {ao : Option Addr} {n cap b off : Nat} {xs : List Nat} (h : SlAt w K ao n cap b off xs) {m : Nat} (hm : m ≤ n) : Sl w K (.slice ao m m) (xs.take m) :=
  ⟨ao, m, m, b, off, rfl, by rw [List.length_take, h.len]; omega, Nat.le_refl _, by have := h.le; have := h.max; omega,
    by rcases h.addr with h | ⟨h, h1, h2⟩
       · exact .inl h
       · exact .inr ⟨h, by omega, by omega⟩,
    fun i hi => by rw [nth_take hi]; exact h.cells i (by omega), wf_take h.wf m⟩

theorem SlAt.cut {w : World} {K : IntKind} {ao : Option Addr} {n cap b off : Nat} {xs : List Nat} (h : SlAt w K ao n cap b off xs) {m : Nat} (hm : m ≤ n) : SlAt w K ao m m b off (xs.take m) :=
  ⟨by rw [List.length_take, h.len]; omega, Nat.le_refl _, by have := h.le; have := h.max; omega,
    by rcases h.addr with h | ⟨h, h1, h2⟩
       · exact .inl h
       · exact .inr ⟨h, by omega, by omega⟩,
    fun i hi => by rw [nth_take hi]; exact h.cells i (by omega), wf_take h.wf m⟩

theorem trim_spec (xs : List Nat) : (trim xs).length ≤ xs.length ∧ trim xs = xs.take (trim xs).length := by
  induction xs with
  | nil => simp [trim]
  | cons x xs ih =>
    rw [trim]
    cases h : trim xs with
    | nil => by_cases hx : x = 0 <;> simp [hx]
    | cons y ys =>
      rw [h] at ih
      simp only [List.length_cons, List.take_succ_cons] at ih ⊢
      exact ⟨by omega, by rw [← ih.2]⟩

set_option maxHeartbeats 400000 in
theorem norm_val {ao : Option Addr} {n cap b off : Nat} {xs : List Nat} {w : World} (hs : SlAt w .u32 ao n cap b off xs) :
    Calls Try.prog 126 #[.slice ao n cap] w (fun e w' => e = .returned (.slice ao (trim xs).length (trim xs).length) ∧ w' = w) := by
  have hle := hs.le
  have hmax := hs.max
  have hfin : ∀ m, m ≤ n → (∀ i, m ≤ i → nth xs i = 0) → (m = 0 ∨ nth xs (m - 1) ≠ 0) → (trim xs).length = m := by
    intro m hm hz hl
    rw [trim_take xs m (by rw [hs.len]; exact hm) hz hl, List.length_take, hs.len]; omega
  have HF := Lib.hid hfin
  clear hfin
  obtain ⟨t, ht⟩ : ∃ t, t = (trim xs).length := ⟨_, rfl⟩
  rw [← ht] at HF ⊢
  clear ht
  go_enter Try.func126, Try.ntmps126
  go_wp2
  go_loop [3] (fun t => ∃ m : Nat, m ≤ n ∧ t = .int .i64 m ∧ ∀ i, m ≤ i → nth xs i = 0) (fun t => (intOf t).toNat)
  case atStart => exact ⟨n, Nat.le_refl _, rfl, fun i hi => nth_ge (by rw [hs.len]; exact hi)⟩
  case round =>
    obtain ⟨m, hm, rfl, hz⟩ := hrel
    have HZ := Lib.hid hz
    clear hz
    by_cases h0 : m = 0
    · have hd : decide (0 < (m : Int)) = false := decide_eq_false (by omega)
      have hr := HF.out m hm HZ.out (.inl h0)
      have HR := Lib.hid hr
      clear hr
      go_wp2
      go_ret
      exact ⟨by rw [HR.out, h0]; rfl, rfl⟩
    · obtain rfl := hs.addr.resolve_right (by omega)
      have hc := hs.cells (m - 1) (by omega)
      by_cases hz : nth xs (m - 1) = 0
      · have hzz : ((nth xs (m - 1) : Int) == 0) = true := by simp [hz]
        have HY := Lib.hid hz
        clear hz
        go_wp2
        go_round
        case rel => exact ⟨m - 1, by omega, by go_num, fun i hi => by
          by_cases h : i = m - 1
          · rw [h]; exact HY.out
          · exact HZ.out i (by omega)⟩
        case measure => simp [intOf]; omega
      · have hzz : ((nth xs (m - 1) : Int) == 0) = false := by simp [hz]
        have hr := HF.out m hm HZ.out (.inr hz)
        have HR := Lib.hid hr
        clear hr
        go_wp2
        go_ret
        exact ⟨by rw [HR.out]; rfl, rfl⟩

theorem norm_any (v : Value) (xs : List Nat) (w : World) (h : Sl w .u32 v xs) : Calls Try.prog 126 #[v] w (RetSl .u32 w (trim xs)) := by
  obtain ⟨ao, n, cap, b, off, rfl, hs⟩ := h
  refine (norm_val hs).mono ?_
  rintro e w' ⟨rfl, rfl⟩
  refine ⟨_, rfl, ?_, Below.refl _ _⟩
  have ht := trim_spec xs
  rw [hs.len] at ht
  have := (hs.cut ht.1).sl
  rw [← ht.2] at this
  exact this

end Go.Proofs.Ytppbhjhbaknidaa
