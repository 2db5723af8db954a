/-
  The contracts of the specification's small functions: Trim, Of, at, power. Condition: rows of at most 2^40 digits.
-/
import Derived.Test.YtppbhjhbaknidaaRow
namespace Go.Proofs.Ytppbhjhbaknidaa
open Go.RowKit

/-- The slice value v holds the digits of n to the base 2^16, without zeros at the top. -/
def IsR (w : World) (v : Value) (n : Nat) : Prop := ∃ xs, Sl w .i64 v xs ∧ Can 65536 xs ∧ val 65536 xs = n
theorem IsR.below {w w' : World} {v : Value} {n : Nat} (h : IsR w v n) (hb : Below w.heap.size w w') : IsR w' v n :=
  let ⟨xs, h1, h2, h3⟩ := h
  ⟨xs, h1.below hb, h2, h3⟩
theorem IsR.zero (w : World) : IsR w (.slice none 0 0) 0 := ⟨[], Sl.nil w _, Can.nil _, rfl⟩
def RetR (w : World) (n : Nat) (e : Ending) (w' : World) : Prop := ∃ v, e = .returned v ∧ IsR w' v n ∧ Below w.heap.size w w'
theorem wf_i64 {n : Nat} (h : n < 4611686018427387904) : (Lit.int .i64 (n : Int)).wf = true := WalkArith.wf_i64 ⟨by omega, by omega⟩
theorem Dg.wf16 {xs : List Nat} (h : Dg 65536 xs) : ∀ x ∈ xs, (Lit.int .i64 (x : Int)).wf = true := fun x hx => wf_i64 (by have := h x hx; omega)
theorem Can.len_R {xs : List Nat} (h : Can 65536 xs) {L : Nat} (hn : val 65536 xs < P2 L) : 16 * xs.length < L + 16 := by
  by_cases he : xs = []
  · simp [he]
  · have h1 := h.ge he
    rw [P2_16] at h1
    have := P2_lt (Nat.lt_of_le_of_lt h1 hn)
    have : 0 < xs.length := List.length_pos_iff.2 he
    omega
theorem RetSl.numR {w w0 w' : World} {xs : List Nat} {e : Ending} (h : RetSl .i64 w (trim xs) e w') (hd : Dg 65536 xs) {n : Nat} (hn : val 65536 xs = n) (hb : Below w0.heap.size w0 w) : RetR w0 n e w' := by
  obtain ⟨v, he, hv, hb'⟩ := h
  exact ⟨v, he, ⟨_, hv, hd.can, by rw [val_trim, hn]⟩, hb.trans (hb'.mono hb.size)⟩

set_option maxHeartbeats 400000 in
theorem trim_val {ao : Option Addr} {n cap b off : Nat} {xs : List Nat} {w : World} (hs : SlAt w .i64 ao n cap b off xs) :
    Calls Try.prog 105 #[.slice ao n cap] w (fun e w' => e = .returned (.slice ao (trim xs).length cap) ∧ w' = w) := by
  have hle := hs.le
  have hmax := hs.max
  have hfin : ∀ m, m ≤ n → (∀ i, m ≤ i → nth xs i = 0) → (m = 0 ∨ nth xs (m - 1) ≠ 0) → (trim xs).length = m := by
    intro m hm hz hl
    rw [trim_take xs m (by rw [hs.len]; exact hm) hz hl, List.length_take, hs.len]; omega
  have HF := Lib.hid hfin
  clear hfin
  obtain ⟨t, ht⟩ : ∃ t, t = (trim xs).length := ⟨_, rfl⟩
  rw [← ht] at HF ⊢
  clear ht
  go_enter Try.func105, Try.ntmps105
  go_wp2
  go_loop [3] (fun t => ∃ m : Nat, m ≤ n ∧ t = .int .i64 m ∧ ∀ i, m ≤ i → nth xs i = 0) (fun t => (intOf t).toNat)
  case atStart => exact ⟨n, Nat.le_refl _, rfl, fun i hi => nth_ge (by rw [hs.len]; exact hi)⟩
  case round =>
    obtain ⟨m, hm, rfl, hz⟩ := hrel
    have HZ := Lib.hid hz
    clear hz
    by_cases h0 : m = 0
    · have hd : decide (0 < (m : Int)) = false := decide_eq_false (by omega)
      have hr := HF.out m hm HZ.out (.inl h0)
      have HR := Lib.hid hr
      clear hr
      go_wp2
      go_ret
      exact ⟨by rw [HR.out, h0]; rfl, rfl⟩
    · obtain rfl := hs.addr.resolve_right (by omega)
      have hc := hs.cells (m - 1) (by omega)
      by_cases hz : nth xs (m - 1) = 0
      · have hzz : ((nth xs (m - 1) : Int) == 0) = true := by simp [hz]
        have HY := Lib.hid hz
        clear hz
        go_wp2
        go_round
        case rel => exact ⟨m - 1, by omega, by go_num, fun i hi => by
          by_cases h : i = m - 1
          · rw [h]; exact HY.out
          · exact HZ.out i (by omega)⟩
        case measure => simp [intOf]; omega
      · have hzz : ((nth xs (m - 1) : Int) == 0) = false := by simp [hz]
        have hr := HF.out m hm HZ.out (.inr hz)
        have HR := Lib.hid hr
        clear hr
        go_wp2
        go_ret
        exact ⟨by rw [HR.out]; rfl, rfl⟩

theorem trim_any (v : Value) (xs : List Nat) (w : World) (h : Sl w .i64 v xs) : Calls Try.prog 105 #[v] w (RetSl .i64 w (trim xs)) := by
  obtain ⟨ao, n, cap, b, off, rfl, hs⟩ := h
  refine (trim_val hs).mono ?_
  rintro e w' ⟨rfl, rfl⟩
  refine ⟨_, rfl, ?_, Below.refl _ _⟩
  have ht := trim_spec xs
  rw [hs.len] at ht
  have := (hs.head ht.1).sl
  rw [← ht.2] at this
  exact this

set_option maxHeartbeats 400000 in
theorem power_any (n : Nat) (h : n ≤ 16) (w : World) : Calls Try.prog 113 #[.int .i64 n] w fun e w' => e = .returned (.int .i64 (2 ^ n : Nat)) ∧ w' = w := by
  have hN : 2 ^ n ≤ 65536 := Nat.pow_le_pow_right (n := 2) (by omega) h
  go_enter Try.func113, Try.ntmps113
  go_wp2
  go_loop [3, 4] (fun x i => ∃ k : Nat, k ≤ n ∧ x = .int .i64 (2 ^ k : Nat) ∧ i = .int .i64 k) (fun _ i => n - (intOf i).toNat)
  case atStart => exact ⟨0, Nat.zero_le _, rfl, rfl⟩
  case round =>
    obtain ⟨k, hk, rfl, rfl⟩ := hrel
    have hp : 2 ^ k ≤ 65536 := Nat.le_trans (Nat.pow_le_pow_right (n := 2) (by omega) hk) hN
    have HP := Lib.hid (show 2 ^ (k + 1) = 2 * 2 ^ k by rw [Nat.pow_succ]; omega)
    have HN := Lib.hid hN
    clear hN
    by_cases hlt : k < n
    · generalize hq : 2 ^ k = q at *
      go_wp2
      go_round
      case rel => exact ⟨k + 1, by omega, by rw [HP.out]; go_num, by go_num⟩
      case measure => simp [intOf]; omega
    · have : k = n := by omega
      subst this
      go_wp2
      go_ret
      exact ⟨rfl, rfl⟩

theorem can_of_ge {b : Nat} (hb : 1 < b) {xs : List Nat} (hd : Dg b xs) (h : xs = [] ∨ b ^ (xs.length - 1) ≤ val b xs) : Can b xs := by
  refine ⟨hd, ?_⟩
  rcases h with h | h
  · subst h; rfl
  · have h1 := trim_spec xs
    have h2 := val_lt hd.trim
    rw [val_trim] at h2
    have h3 := (Nat.pow_lt_pow_iff_right hb).1 (Nat.lt_of_le_of_lt h h2)
    by_cases he : xs = []
    · subst he; rfl
    · have : 0 < xs.length := List.length_pos_iff.2 he
      rw [h1.2, List.take_of_length_le (by omega)]

set_option maxHeartbeats 400000 in
theorem at_any {v : Value} {xs : List Nat} {w : World} (h : Sl w .i64 v xs) (i : Nat) (hi : i ≤ 4611686018427387904) :
    Calls Try.prog 104 #[v, .int .i64 i] w fun e w' => e = .returned (.int .i64 (nth xs i)) ∧ w' = w := by
  obtain ⟨ao, n, cap, b, off, rfl, hs⟩ := h
  have hle := hs.le
  have hmax := hs.max
  by_cases hlt : i < n
  · obtain rfl := hs.addr.resolve_right (by omega)
    have hc := hs.cells i hlt
    go_enter Try.func104, Try.ntmps104
    go_wp2
    go_ret
    exact ⟨rfl, rfl⟩
  · have hz : nth xs i = 0 := nth_ge (by rw [hs.len]; omega)
    go_enter Try.func104, Try.ntmps104
    go_wp2
    go_ret
    exact ⟨by rw [hz]; rfl, rfl⟩

theorem pow16_lt {k n : Nat} (h : 65536 ^ k ≤ n) (hn : n < 18446744073709551616) : k < 4 := by
  refine Nat.lt_of_not_le fun hc => ?_
  have := Nat.pow_le_pow_right (n := 65536) (by omega) hc
  omega

set_option maxHeartbeats 800000 in
theorem of_any (n : Nat) (h : n < 9223372036854775808) (w : World) : Calls Try.prog 67 #[.int .i64 n] w (RetR w n) := by
  go_enter Try.func67, Try.ntmps67
  go_wp2
  go_loopw [0, 3] (fun q o wr => ∃ (m : Nat) (xs : List Nat), q = .int .i64 m ∧ m ≤ n ∧ Row wr w.heap.size .i64 3 o xs ∧ Below w.heap.size w wr ∧ Dg 65536 xs ∧ xs.length ≤ 4 ∧ Hid (val 65536 xs + 65536 ^ xs.length * m = n) ∧ Hid (xs = [] ∨ 65536 ^ (xs.length - 1) ≤ n)) (fun q _ _ => (intOf q).toNat)
  case atStart => exact ⟨n, [], rfl, Nat.le_refl _, Row.nil _ _ _ _, Below.refl _ _, Dg.nil _, by decide, Lib.hid (show 0 + 1 * n = n by omega), Lib.hid (.inl rfl)⟩
  case round =>
    obtain ⟨m, xs, rfl, hm, hrow, hb, hd, hl, hv, hg⟩ := hrel
    have hsz := hb.size
    by_cases h0 : m = 0
    · subst h0
      obtain ⟨ao, cap, rfl⟩ := hrow.slice
      go_wp2
      go_ret
      have hv' : val 65536 xs = n := by have := hv.out; simpa using this
      exact ⟨_, rfl, ⟨xs, hrow.sl (by omega) hd.wf16, can_of_ge (by omega) hd (by rw [hv']; exact hg.out), hv'⟩, hb⟩
    · have hge : 65536 ^ xs.length ≤ n := by
        have := hv.out
        have h2 : 65536 ^ xs.length * 1 ≤ 65536 ^ xs.length * m := Nat.mul_le_mul_left _ (by omega)
        omega
      have h4 := pow16_lt hge (by omega)
      have hv2 : Hid (val 65536 (xs ++ [m % 65536]) + 65536 ^ (xs ++ [m % 65536]).length * (m / 65536) = n) := Lib.hid (by
        rw [val_snoc, List.length_append, List.length_singleton, Nat.pow_succ, Nat.mul_assoc, Nat.add_assoc, ← Nat.mul_add, Nat.mod_add_div]
        exact hv.out)
      have hg2 : Hid (xs ++ [m % 65536] = [] ∨ 65536 ^ ((xs ++ [m % 65536]).length - 1) ≤ n) := Lib.hid (.inr (by simpa using hge))
      have HG := Lib.hid hge
      clear hge
      go_wp2_with (at_builtin; refine wpList_append_row _ rfl _ _ 29 rfl w.heap.size 3 .i64 8 Try.underlying29 (by kernel_rfl) (by omega) _ xs _ (m % 65536) rfl hrow rfl rfl (by omega) (by omega) ?_; intro v' w' hrow' hbel' _)
      go_roundw
      case rel => exact ⟨m / 65536, xs ++ [m % 65536], by go_num, by omega, hrow', hb.trans hbel', hd.snoc (Nat.mod_lt _ (by omega)), by simp; omega, hv2, hg2⟩
      case measure => simp [intOf]; omega

end Go.Proofs.Ytppbhjhbaknidaa
