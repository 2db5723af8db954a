/-
  The contracts of the specification's small functions: Trim, Of, at, power. Condition: rows of at most 2^40 digits. The contracts of the specification's Cmp, BitLen, Bit, Raw. Condition: rows of at most 2^40 digits. The contracts of the specification's Add and Sub. Condition: rows of at most 2^39 digits. The contract of the specification's Mul. Condition: numbers of at most 2^33 bits. The contracts of the specification's Small. Condition: numbers of at most 2^33 bits, a divisor from 1 to 2^16. Numerals as lists of bytes: the numeral of a number, the number of a numeral. No condition. The contract of the specification's Text: the numeral. Condition: numbers of at most 2^30 bits. The contracts of the program's numeral and of the specification's Numeral. Condition: strings of at most 2^40 bytes. The contract of the program's Parse. Condition: strings of at most 2^40 bytes. The contract of the program's String: the numeral of a number. Condition: numbers of at most 2^30 bits.
-/
import Derived.Test.YtppbhjhbaknidaaZb
import Derived.Laws.BytesArg
set_option linter.unusedVariables false
set_option linter.unusedSimpArgs false

/-
  The contracts of the specification's small functions: Trim, Of, at, power. Condition: rows of at most 2^40 digits.
-/
namespace Go.Proofs.Ytppbhjhbaknidaa
open Go.RowKit

/-- The slice value v holds the digits of n to the base 2^16, without zeros at the top. -/
def IsR (w : World) (v : Value) (n : Nat) : Prop := ∃ xs, Sl w .i64 v xs ∧ Can 65536 xs ∧ val 65536 xs = n
theorem IsR.below {w w' : World} {v : Value} {n : Nat} (h : IsR w v n) (hb : Below w.heap.size w w') : IsR w' v n :=
  let ⟨xs, h1, h2, h3⟩ := h
  ⟨xs, h1.below hb, h2, h3⟩
theorem IsR.zero (w : World) : IsR w (.slice none 0 0) 0 := ⟨[], Sl.nil w _, Can.nil _, rfl⟩
def RetR (w : World) (n : Nat) (e : Ending) (w' : World) : Prop := ∃ v, e = .returned v ∧ IsR w' v n ∧ Below w.heap.size w w'
theorem wf_i64 {n : Nat} (h : n < 4611686018427387904) : (Lit.int .i64 (n : Int)).wf = true := WalkArith.wf_i64 ⟨by omega, by omega⟩
theorem Dg.wf16 {xs : List Nat} (h : Dg 65536 xs) : ∀ x ∈ xs, (Lit.int .i64 (x : Int)).wf = true := fun x hx => wf_i64 (by have := h x hx; omega)
theorem Can.len_R {xs : List Nat} (h : Can 65536 xs) {L : Nat} (hn : val 65536 xs < P2 L) : 16 * xs.length < L + 16 := by
  by_cases he : xs = []
  · simp [he]
  · have h1 := h.ge he
    rw [P2_16] at h1
    have := P2_lt (Nat.lt_of_le_of_lt h1 hn)
    have : 0 < xs.length := List.length_pos_iff.2 he
    omega
theorem RetSl.numR {w w0 w' : World} {xs : List Nat} {e : Ending} (h : RetSl .i64 w (trim xs) e w') (hd : Dg 65536 xs) {n : Nat} (hn : val 65536 xs = n) (hb : Below w0.heap.size w0 w) : RetR w0 n e w' := by
  obtain ⟨v, he, hv, hb'⟩ := h
  exact ⟨v, he, ⟨_, hv, hd.can, by rw [val_trim, hn]⟩, hb.trans (hb'.mono hb.size)⟩

set_option maxHeartbeats 400000 in
theorem trim_val {ao : Option Addr} {n cap b off : Nat} {xs : List Nat} {w : World} (hs : SlAt w .i64 ao n cap b off xs) :
    Calls Try.prog 105 #[.slice ao n cap] w (fun e w' => e = .returned (.slice ao (trim xs).length cap) ∧ w' = w) := by
  have hle := hs.le
  have hmax := hs.max
  have hfin : ∀ m, m ≤ n → (∀ i, m ≤ i → nth xs i = 0) → (m = 0 ∨ nth xs (m - 1) ≠ 0) → (trim xs).length = m := by
    intro m hm hz hl
    rw [trim_take xs m (by rw [hs.len]; exact hm) hz hl, List.length_take, hs.len]; omega
  have HF := Lib.hid hfin
  clear hfin
  obtain ⟨t, ht⟩ : ∃ t, t = (trim xs).length := ⟨_, rfl⟩
  rw [← ht] at HF ⊢
  clear ht
  go_enter Try.func105, Try.ntmps105
  go_wp2
  go_loop [3] (fun t => ∃ m : Nat, m ≤ n ∧ t = .int .i64 m ∧ ∀ i, m ≤ i → nth xs i = 0) (fun t => (intOf t).toNat)
  case atStart => exact ⟨n, Nat.le_refl _, rfl, fun i hi => nth_ge (by rw [hs.len]; exact hi)⟩
  case round =>
    obtain ⟨m, hm, rfl, hz⟩ := hrel
    have HZ := Lib.hid hz
    clear hz
    by_cases h0 : m = 0
    · have hd : decide (0 < (m : Int)) = false := decide_eq_false (by omega)
      have hr := HF.out m hm HZ.out (.inl h0)
      have HR := Lib.hid hr
      clear hr
      go_wp2
      go_ret
      exact ⟨by rw [HR.out, h0]; rfl, rfl⟩
    · obtain rfl := hs.addr.resolve_right (by omega)
      have hc := hs.cells (m - 1) (by omega)
      by_cases hz : nth xs (m - 1) = 0
      · have hzz : ((nth xs (m - 1) : Int) == 0) = true := by simp [hz]
        have HY := Lib.hid hz
        clear hz
        go_wp2
        go_round
        case rel => exact ⟨m - 1, by omega, by go_num, fun i hi => by
          by_cases h : i = m - 1
          · rw [h]; exact HY.out
          · exact HZ.out i (by omega)⟩
        case measure => simp [intOf]; omega
      · have hzz : ((nth xs (m - 1) : Int) == 0) = false := by simp [hz]
        have hr := HF.out m hm HZ.out (.inr hz)
        have HR := Lib.hid hr
        clear hr
        go_wp2
        go_ret
        exact ⟨by rw [HR.out]; rfl, rfl⟩

theorem trim_any (v : Value) (xs : List Nat) (w : World) (h : Sl w .i64 v xs) : Calls Try.prog 105 #[v] w (RetSl .i64 w (trim xs)) := by
  obtain ⟨ao, n, cap, b, off, rfl, hs⟩ := h
  refine (trim_val hs).mono ?_
  rintro e w' ⟨rfl, rfl⟩
  refine ⟨_, rfl, ?_, Below.refl _ _⟩
  have ht := trim_spec xs
  rw [hs.len] at ht
  have := (hs.head ht.1).sl
  rw [← ht.2] at this
  exact this

set_option maxHeartbeats 400000 in
theorem power_any (n : Nat) (h : n ≤ 16) (w : World) : Calls Try.prog 113 #[.int .i64 n] w fun e w' => e = .returned (.int .i64 (2 ^ n : Nat)) ∧ w' = w := by
  have hN : 2 ^ n ≤ 65536 := Nat.pow_le_pow_right (n := 2) (by omega) h
  go_enter Try.func113, Try.ntmps113
  go_wp2
  go_loop [3, 4] (fun x i => ∃ k : Nat, k ≤ n ∧ x = .int .i64 (2 ^ k : Nat) ∧ i = .int .i64 k) (fun _ i => n - (intOf i).toNat)
  case atStart => exact ⟨0, Nat.zero_le _, rfl, rfl⟩
  case round =>
    obtain ⟨k, hk, rfl, rfl⟩ := hrel
    have hp : 2 ^ k ≤ 65536 := Nat.le_trans (Nat.pow_le_pow_right (n := 2) (by omega) hk) hN
    have HP := Lib.hid (show 2 ^ (k + 1) = 2 * 2 ^ k by rw [Nat.pow_succ]; omega)
    have HN := Lib.hid hN
    clear hN
    by_cases hlt : k < n
    · generalize hq : 2 ^ k = q at *
      go_wp2
      go_round
      case rel => exact ⟨k + 1, by omega, by rw [HP.out]; go_num, by go_num⟩
      case measure => simp [intOf]; omega
    · have : k = n := by omega
      subst this
      go_wp2
      go_ret
      exact ⟨rfl, rfl⟩

theorem can_of_ge {b : Nat} (hb : 1 < b) {xs : List Nat} (hd : Dg b xs) (h : xs = [] ∨ b ^ (xs.length - 1) ≤ val b xs) : Can b xs := by
  refine ⟨hd, ?_⟩
  rcases h with h | h
  · subst h; rfl
  · have h1 := trim_spec xs
    have h2 := val_lt hd.trim
    rw [val_trim] at h2
    have h3 := (Nat.pow_lt_pow_iff_right hb).1 (Nat.lt_of_le_of_lt h h2)
    by_cases he : xs = []
    · subst he; rfl
    · have : 0 < xs.length := List.length_pos_iff.2 he
      rw [h1.2, List.take_of_length_le (by omega)]

set_option maxHeartbeats 400000 in
theorem at_any {v : Value} {xs : List Nat} {w : World} (h : Sl w .i64 v xs) (i : Nat) (hi : i ≤ 4611686018427387904) :
    Calls Try.prog 104 #[v, .int .i64 i] w fun e w' => e = .returned (.int .i64 (nth xs i)) ∧ w' = w := by
  obtain ⟨ao, n, cap, b, off, rfl, hs⟩ := h
  have hle := hs.le
  have hmax := hs.max
  by_cases hlt : i < n
  · obtain rfl := hs.addr.resolve_right (by omega)
    have hc := hs.cells i hlt
    go_enter Try.func104, Try.ntmps104
    go_wp2
    go_ret
    exact ⟨rfl, rfl⟩
  · have hz : nth xs i = 0 := nth_ge (by rw [hs.len]; omega)
    go_enter Try.func104, Try.ntmps104
    go_wp2
    go_ret
    exact ⟨by rw [hz]; rfl, rfl⟩

theorem pow16_lt {k n : Nat} (h : 65536 ^ k ≤ n) (hn : n < 18446744073709551616) : k < 4 := by
  refine Nat.lt_of_not_le fun hc => ?_
  have := Nat.pow_le_pow_right (n := 65536) (by omega) hc
  omega

set_option maxHeartbeats 800000 in
theorem of_any (n : Nat) (h : n < 9223372036854775808) (w : World) : Calls Try.prog 67 #[.int .i64 n] w (RetR w n) := by
  go_enter Try.func67, Try.ntmps67
  go_wp2
  go_loopw [0, 3] (fun q o wr => ∃ (m : Nat) (xs : List Nat), q = .int .i64 m ∧ m ≤ n ∧ Row wr w.heap.size .i64 3 o xs ∧ Below w.heap.size w wr ∧ Dg 65536 xs ∧ xs.length ≤ 4 ∧ Hid (val 65536 xs + 65536 ^ xs.length * m = n) ∧ Hid (xs = [] ∨ 65536 ^ (xs.length - 1) ≤ n)) (fun q _ _ => (intOf q).toNat)
  case atStart => exact ⟨n, [], rfl, Nat.le_refl _, Row.nil _ _ _ _, Below.refl _ _, Dg.nil _, by decide, Lib.hid (show 0 + 1 * n = n by omega), Lib.hid (.inl rfl)⟩
  case round =>
    obtain ⟨m, xs, rfl, hm, hrow, hb, hd, hl, hv, hg⟩ := hrel
    have hsz := hb.size
    by_cases h0 : m = 0
    · subst h0
      obtain ⟨ao, cap, rfl⟩ := hrow.slice
      go_wp2
      go_ret
      have hv' : val 65536 xs = n := by have := hv.out; simpa using this
      exact ⟨_, rfl, ⟨xs, hrow.sl (by omega) hd.wf16, can_of_ge (by omega) hd (by rw [hv']; exact hg.out), hv'⟩, hb⟩
    · have hge : 65536 ^ xs.length ≤ n := by
        have := hv.out
        have h2 : 65536 ^ xs.length * 1 ≤ 65536 ^ xs.length * m := Nat.mul_le_mul_left _ (by omega)
        omega
      have h4 := pow16_lt hge (by omega)
      have hv2 : Hid (val 65536 (xs ++ [m % 65536]) + 65536 ^ (xs ++ [m % 65536]).length * (m / 65536) = n) := Lib.hid (by
        rw [val_snoc, List.length_append, List.length_singleton, Nat.pow_succ, Nat.mul_assoc, Nat.add_assoc, ← Nat.mul_add, Nat.mod_add_div]
        exact hv.out)
      have hg2 : Hid (xs ++ [m % 65536] = [] ∨ 65536 ^ ((xs ++ [m % 65536]).length - 1) ≤ n) := Lib.hid (.inr (by simpa using hge))
      have HG := Lib.hid hge
      clear hge
      go_wp2_with (at_builtin; refine wpList_append_row _ rfl _ _ 29 rfl w.heap.size 3 .i64 8 Try.underlying29 (by kernel_rfl) (by omega) _ xs _ (m % 65536) rfl hrow rfl rfl (by omega) (by omega) ?_; intro v' w' hrow' hbel' _)
      go_roundw
      case rel => exact ⟨m / 65536, xs ++ [m % 65536], by go_num, by omega, hrow', hb.trans hbel', hd.snoc (Nat.mod_lt _ (by omega)), by simp; omega, hv2, hg2⟩
      case measure => simp [intOf]; omega

end Go.Proofs.Ytppbhjhbaknidaa

/-
  The contracts of the specification's Cmp, BitLen, Bit, Raw. Condition: rows of at most 2^40 digits.
-/
namespace Go.Proofs.Ytppbhjhbaknidaa
open Go.RowKit

theorem blen_topR {xs : List Nat} (h : Can 65536 xs) (hn : xs ≠ []) : blen (val 65536 xs) = 16 * (xs.length - 1) + blen (nth xs (xs.length - 1)) ∧ 1 ≤ blen (nth xs (xs.length - 1)) ∧ blen (nth xs (xs.length - 1)) ≤ 16 := by
  have hl : 0 < xs.length := List.length_pos_iff.2 hn
  have e := val_take_drop 65536 xs (xs.length - 1) (by omega)
  have e2 : xs.drop (xs.length - 1) = [nth xs (xs.length - 1)] := by
    apply List.ext_getElem
    · simp; omega
    · intro i h1 h2
      simp at h1 h2
      have : i = 0 := by omega
      subst this
      rw [List.getElem_drop, List.getElem_singleton, nth_lt (by omega)]; rfl
  rw [e2] at e
  simp only [val, Nat.mul_zero, Nat.add_zero] at e
  have b1 := val_lt (h.1.take (xs.length - 1))
  rw [List.length_take, Nat.min_eq_left (by omega)] at b1
  have hg := h.ge hn
  have hd := h.1.nth (by omega) (xs.length - 1)
  rw [P2_16] at e b1 hg
  generalize nth xs (xs.length - 1) = d at *
  generalize val 65536 (xs.take (xs.length - 1)) = r at *
  generalize 16 * (xs.length - 1) = p at *
  have hd0 : d ≠ 0 := by intro h0; subst h0; omega
  have hb : 1 ≤ blen d := by
    have : ¬ blen d ≤ 0 := fun h => by have := blen_le.1 h; unfold P2 at this; omega
    omega
  have hb16 : blen d ≤ 16 := blen_le.2 (by unfold P2; omega)
  obtain ⟨q, hq⟩ : ∃ q, blen d = q + 1 := ⟨blen d - 1, by omega⟩
  have h1 : d < P2 (q + 1) := by rw [← hq]; exact lt_blen
  have h2 : P2 q ≤ d := by
    have : ¬ blen d ≤ q := by omega
    have := mt blen_le.2 this
    omega
  refine ⟨?_, hb, hb16⟩
  rw [hq, ← Nat.add_assoc]
  apply blen_eq
  · rw [Nat.add_assoc, P2_add, e]
    have : P2 p * (d + 1) ≤ P2 p * P2 (q + 1) := Nat.mul_le_mul_left _ h1
    rw [Nat.mul_add] at this
    omega
  · rw [P2_add, e]
    have : P2 p * P2 q ≤ P2 p * d := Nat.mul_le_mul_left _ h2
    omega


theorem blen_half {n : Nat} (h : n ≠ 0) : blen n = blen (n / 2) + 1 := by
  apply blen_eq
  · have := lt_blen (n := n / 2)
    rw [P2_succ]; omega
  · by_cases h1 : n / 2 = 0
    · rw [h1, show blen 0 = 0 from rfl]; unfold P2; omega
    · have h2 : ¬ blen (n / 2) ≤ blen (n / 2) - 1 := by
        have : blen (n / 2) ≠ 0 := by unfold blen; rw [if_neg h1]; omega
        omega
      have h3 := mt blen_le.2 h2
      have h4 : P2 (blen (n / 2)) = 2 * P2 (blen (n / 2) - 1) := by
        rw [← P2_succ]; congr 1; omega
      omega

set_option maxHeartbeats 400000 in
theorem bitLenR_any {w : World} {v : Value} {n : Nat} (h : IsR w v n) :
    Calls Try.prog 68 #[v] w fun e w' => e = .returned (.int .i64 (blen n)) ∧ w' = w := by
  obtain ⟨xs, h, hca, rfl⟩ := h
  obtain ⟨ao, n, cap, b, off, rfl, hs⟩ := h
  have hle := hs.le
  have hmax := hs.max
  by_cases h0 : n = 0
  · have hx : xs = [] := List.length_eq_zero_iff.1 (by rw [hs.len, h0])
    have hz : blen (val 65536 xs) = 0 := by subst hx; rfl
    rw [hz]
    subst h0
    go_enter Try.func68, Try.ntmps68
    go_wp2
    go_ret
    exact ⟨rfl, rfl⟩
  · have hne : xs ≠ [] := fun hx => h0 (by rw [← hs.len, hx]; rfl)
    obtain ⟨t1, t2, t3⟩ := blen_topR hca hne
    obtain rfl := hs.addr.resolve_right (by omega)
    have hc := hs.cells (n - 1) (by omega)
    have hd := hca.1.nth (by omega) (xs.length - 1)
    rw [hs.len] at t1 t2 t3 hd
    rw [t1]
    clear t1
    generalize nth xs (n - 1) = d at *
    have hdd := Lib.hid t2
    clear t2
    go_enter Try.func68, Try.ntmps68
    go_wp2
    go_loop [3, 4] (fun c x => ∃ k m : Nat, c = .int .i64 k ∧ x = .int .i64 m ∧ m ≤ d ∧ k + blen m = 16 * (n - 1) + blen d) (fun _ x => (intOf x).toNat)
    case atStart => exact ⟨16 * (n - 1), d, by go_num, rfl, Nat.le_refl _, rfl⟩
    case round =>
      obtain ⟨k, m, rfl, rfl, hm, hk⟩ := hrel
      by_cases hm0 : m = 0
      · subst hm0
        rw [show blen 0 = 0 from rfl, Nat.add_zero] at hk
        have HK := Lib.hid hk
        have hk2 : k ≤ 17592186044416 := by omega
        clear hk
        go_wp2
        go_ret
        exact ⟨by rw [HK.out]; rfl, rfl⟩
      · have h2 := blen_half hm0
        have hk2 : k ≤ 17592186044416 := by omega
        have H2 := Lib.hid h2
        clear h2
        have HK := Lib.hid hk
        clear hk t3
        go_wp2
        go_round
        case rel => exact ⟨k + 1, m / 2, by go_num, by go_num, by omega, by have := HK.out; have := H2.out; omega⟩
        case measure => simp [intOf]; omega

set_option maxHeartbeats 1000000 in
theorem cmpR_any {w : World} {va vb : Value} {m n : Nat} (ha : IsR w va m) (hb : IsR w vb n) :
    Calls Try.prog 55 #[va, vb] w (RetI w (cmpI m n)) := by
  obtain ⟨xs, ha, hca, rfl⟩ := ha
  obtain ⟨ys, hb, hcb, rfl⟩ := hb
  obtain ⟨ao, n, cap, b, off, rfl, hs⟩ := ha
  obtain ⟨ao2, n2, cap2, b2, off2, rfl, hs2⟩ := hb
  have hle := hs.le
  have hmax := hs.max
  have hle2 := hs2.le
  have hmax2 := hs2.max
  rcases Nat.lt_trichotomy n n2 with hlt | heq | hgt
  · have hv := val_lt_len (by omega) hca.1 hcb (by rw [hs.len, hs2.len]; exact hlt)
    have hfin : cmpI (val 65536 xs) (val 65536 ys) = -1 := by simp [cmpI, hv]
    rw [hfin]
    clear hfin
    have HV := Lib.hid hv
    clear hv
    go_enter Try.func55, Try.ntmps55
    go_wp2
    go_ret
    exact ⟨rfl, Below.refl _ _⟩
  · subst heq
    go_enter Try.func55, Try.ntmps55
    go_wp2
    go_loopw [5] (fun i wr => ∃ j : Nat, j ≤ n ∧ i = .int .i64 ((j : Int) - 1) ∧ (∀ t, j ≤ t → nth xs t = nth ys t) ∧ Below w.heap.size w wr)
      (fun i _ => (intOf i + 1).toNat)
    case atStart => exact ⟨n, Nat.le_refl _, rfl, fun t ht => by rw [nth_ge (by rw [hs.len]; exact ht), nth_ge (by rw [hs2.len]; exact ht)], Below.refl _ _⟩
    case round =>
      obtain ⟨j, hj, rfl, heq, hbel⟩ := hrel
      have HE := Lib.hid heq
      clear heq
      by_cases h0 : j = 0
      · have hd : decide ((0 : Int) ≤ (j : Int) - 1) = false := decide_eq_false (by omega)
        have hfin : cmpI (val 65536 xs) (val 65536 ys) = 0 := by
          have : xs = ys := list_ext_nth (by rw [hs.len, hs2.len]) (fun i _ => HE.out i (by omega))
          simp [cmpI, this]
        have HF := Lib.hid hfin
        clear hfin
        go_wp2
        go_ret
        exact ⟨by rw [HF.out]; rfl, hbel⟩
      · obtain ⟨k, rfl⟩ : ∃ k, j = k + 1 := ⟨j - 1, by omega⟩
        obtain rfl := hs.addr.resolve_right (by omega)
        obtain rfl := hs2.addr.resolve_right (by omega)
        have hc1 : wr.cell? ⟨b, off + k, none⟩ = some (.int .i64 (nth xs k)) := by
          rw [hbel.cell (p := ⟨b, off + k, none⟩) (hs.lt (by omega))]; exact hs.cells k (by omega)
        have hc2 : wr.cell? ⟨b2, off2 + k, none⟩ = some (.int .i64 (nth ys k)) := by
          rw [hbel.cell (p := ⟨b2, off2 + k, none⟩) (hs2.lt (by omega))]; exact hs2.cells k (by omega)
        rw [show ((k + 1 : Nat) : Int) - 1 = (k : Int) by omega]
        rcases Nat.lt_trichotomy (nth xs k) (nth ys k) with h1 | h1 | h1
        · have hfin : cmpI (val 65536 xs) (val 65536 ys) = -1 := by
            simp [cmpI, val_lt_at hca.1 (by rw [hs.len, hs2.len]) k (by rw [hs.len]; omega) (fun t ht => HE.out t (by omega)) h1]
          have HF := Lib.hid hfin
          clear hfin
          have t2 : decide ((nth xs k : Int) < (nth ys k : Int)) = true := decide_eq_true (by omega)
          go_wp2
          go_quiet (fail)
          go_wp2
          go_ret
          exact ⟨by rw [HF.out]; rfl, below_drewN' hbel _⟩
        · have t1 : decide ((nth xs k : Int) < (nth ys k : Int)) = false := decide_eq_false (by omega)
          have t2 : decide ((nth ys k : Int) < (nth xs k : Int)) = false := decide_eq_false (by omega)
          have n1 : nth xs k ≤ nth ys k := by omega
          have n2 : nth ys k ≤ nth xs k := by omega
          have H1 := Lib.hid h1
          clear h1
          go_wp2
          go_quiet (fail)
          go_wp2
          go_quiet (fail)
          go_wp2
          go_roundw
          case rel => exact ⟨k, by omega, rfl, fun t ht => by
            by_cases e : t = k
            · rw [e]; exact H1.out
            · exact HE.out t (by omega), by first | exact below_drewN' hbel _ | exact below_drewN' (below_drewN' hbel _) _⟩
          case measure => simp [intOf]
        · have hfin : cmpI (val 65536 xs) (val 65536 ys) = 1 := by
            have := val_lt_at hcb.1 (by rw [hs.len, hs2.len]) k (by rw [hs2.len]; omega) (fun t ht => (HE.out t (by omega)).symm) h1
            simp [cmpI, this, Nat.lt_asymm this]
          have HF := Lib.hid hfin
          clear hfin
          have t1 : decide ((nth xs k : Int) < (nth ys k : Int)) = false := decide_eq_false (by omega)
          have t2 : decide ((nth ys k : Int) < (nth xs k : Int)) = true := decide_eq_true (by omega)
          go_wp2
          go_quiet (fail)
          go_wp2
          go_quiet (fail)
          go_wp2
          go_ret
          exact ⟨by rw [HF.out]; rfl, by first | exact below_drewN' hbel _ | exact below_drewN' (below_drewN' hbel _) _⟩
  · have hv := val_lt_len (by omega) hcb.1 hca (by rw [hs.len, hs2.len]; exact hgt)
    have hfin : cmpI (val 65536 xs) (val 65536 ys) = 1 := by simp [cmpI, hv, Nat.lt_asymm hv]
    rw [hfin]
    clear hfin
    have HV := Lib.hid hv
    clear hv
    go_enter Try.func55, Try.ntmps55
    go_wp2
    go_ret
    exact ⟨rfl, Below.refl _ _⟩


theorem cellLt {w : World} {a : Addr} {v : Value} (h : w.cell? a = some v) : a.block < w.heap.size := by
  refine Nat.lt_of_not_le fun hc => ?_
  simp [World.cell?, Array.getElem?_eq_none hc] at h
/-- A slice of uint16 that came in. -/
def In16 (w : World) (v : Value) : Prop := ∃ a len cap, v = .slice a len cap ∧ len ≤ 9223372036854775807 ∧ (len = 0 ∨ ∃ x : Addr, a = some x ∧ ∃ f : Nat → Nat, ∀ i, i < len → w.cell? (x.add i) = some (.int .u16 (f i)) ∧ f i < 65536)

theorem In16.below {w w' : World} {v : Value} (h : In16 w v) (hb : Below w.heap.size w w') : In16 w' v := by
  obtain ⟨a, len, cap, rfl, h1, h2⟩ := h
  refine ⟨a, len, cap, rfl, h1, h2.imp id ?_⟩
  rintro ⟨x, hx, f, hf⟩
  exact ⟨x, hx, f, fun i hi => ⟨by rw [hb.cell (cellLt (hf i hi).1)]; exact (hf i hi).1, (hf i hi).2⟩⟩

set_option maxHeartbeats 1000000 in
set_option maxRecDepth 100000 in
theorem raw_any {w : World} {v : Value} (h : In16 w v) (most : Nat) (hm : most ≤ 1099511627776) :
    Calls Try.prog 35 #[v, .int .i64 most] w fun e w' => ∃ n, n < P2 (16 * most) ∧ RetR w n e w' := by
  obtain ⟨a, len, cap, rfl, h1, h2⟩ := h
  go_enter Try.func35, Try.ntmps35
  go_wp2
  go_loopw [5, 6] (fun o i wr => ∃ (xs : List Nat), i = .int .i64 xs.length ∧ xs.length ≤ len ∧ xs.length ≤ most ∧ Row wr w.heap.size .i64 3 o xs ∧ Below w.heap.size w wr ∧ Dg 65536 xs) (fun _ i _ => most - (intOf i).toNat)
  case atStart => exact ⟨[], rfl, by simp, by simp, Row.nil _ _ _ _, Below.refl _ _, Dg.nil _⟩
  case round =>
    obtain ⟨xs, rfl, hl, hl2, hrow, hb, hd⟩ := hrel
    have hsz := hb.size
    obtain ⟨k, hk⟩ : ∃ k, k = xs.length := ⟨_, rfl⟩
    rw [← hk] at hl hl2 ⊢
    have HK := Lib.hid hk
    clear hk
    by_cases hr : k < len ∧ k < most
    · obtain ⟨hr1, hr2⟩ := hr
      obtain ⟨x, rfl, f, hf⟩ := h2.resolve_left (by omega)
      have hc : wr.cell? (x.add k) = some (.int .u16 (f k)) := by
        rw [hb.cell (cellLt (hf k hr1).1)]; exact (hf k hr1).1
      have hfk := (hf k hr1).2
      have hxl : xs.length < 1099511627776 := by have := HK.out; omega
      go_wp2_with (at_builtin; go_loud (refine wpList_append_row _ rfl _ _ 29 rfl w.heap.size 3 .i64 8 Try.underlying29 (by kernel_rfl) (by omega) _ xs _ (f k) (by rfl) hrow (by rfl) (by rfl) hxl hsz ?_; intro v' w' hrow' hbel' _))
      go_roundw
      case rel => exact ⟨xs ++ [f k], by rw [List.length_append, ← HK.out]; go_num, by have := HK.out; simp; omega, by have := HK.out; simp; omega, hrow', hb.trans hbel', hd.snoc hfk⟩
      case measure => simp [intOf]; omega
    · have hnum : RetSl .i64 wr (trim xs) = RetSl .i64 wr (trim xs) := rfl
      have hsl := hrow.sl (by have := HK.out; omega) hd.wf16
      have hv := val_lt hd
      rw [P2_16] at hv
      have hv2 := lt_P2_mono hv (show 16 * xs.length ≤ 16 * most by have := HK.out; omega)
      have HV := Lib.hid hv2
      clear hv hv2 hnum
      have hr' : len ≤ k ∨ (k < len ∧ most ≤ k) := by omega
      clear hr
      rcases hr' with hr | ⟨hr, hr2⟩
      all_goals
        go_wp2_with fail
        refine (trim_any _ _ _ hsl).mono ?_
        intro e w2 hret
        obtain ⟨v2, rfl, hret'⟩ := id hret
        go_wp2
        go_ret
        exact ⟨_, HV.out, hret.numR hd rfl hb⟩

end Go.Proofs.Ytppbhjhbaknidaa

/-
  The contracts of the specification's Add and Sub. Condition: rows of at most 2^39 digits.
-/
namespace Go.Proofs.Ytppbhjhbaknidaa
open Go.RowKit

theorem val_take_le (b : Nat) (xs : List Nat) (k : Nat) : val b (xs.take k) ≤ val b xs := by
  by_cases h : k ≤ xs.length
  · have := val_take_drop b xs k h
    omega
  · rw [val_take_ge b (by omega)]; exact Nat.le_refl _

structure AddR (xs ys zs : List Nat) (k c : Nat) : Prop where
  len : zs.length = k
  dg : Dg 65536 zs
  car : c ≤ 1
  eq : val 65536 zs + 65536 ^ k * c = val 65536 (xs.take k) + val 65536 (ys.take k)
  can : zs = [] ∨ 65536 ^ (zs.length - 1) ≤ val 65536 xs + val 65536 ys

theorem AddR.step {xs ys zs : List Nat} {k c : Nat} (h : AddR xs ys zs k c) (ha : Can 65536 xs) (hb : Can 65536 ys) (hr : k < xs.length ∨ k < ys.length ∨ 0 < c) :
    AddR xs ys (zs ++ [(c + (nth xs k + nth ys k)) % 65536]) (k + 1) ((c + (nth xs k + nth ys k)) / 65536) := by
  have h1 := ha.1.nth (by omega) k
  have h2 := hb.1.nth (by omega) k
  have h3 := h.car
  refine ⟨by simp [h.len], h.dg.snoc (Nat.mod_lt _ (by omega)), by omega, ?_, .inr ?_⟩
  · rw [val_snoc, val_take_succ, val_take_succ, Nat.pow_succ, Nat.mul_assoc, Nat.add_assoc, h.len, ← Nat.mul_add, Nat.mod_add_div, Nat.mul_add, Nat.mul_add]
    have := h.eq
    omega
  · rw [List.length_append, List.length_singleton, Nat.add_sub_cancel, h.len]
    rcases hr with hr | hr | hr
    · have g := ha.ge (by intro e; simp [e] at hr)
      have := Nat.pow_le_pow_right (n := 65536) (by omega) (show k ≤ xs.length - 1 by omega)
      omega
    · have g := hb.ge (by intro e; simp [e] at hr)
      have := Nat.pow_le_pow_right (n := 65536) (by omega) (show k ≤ ys.length - 1 by omega)
      omega
    · have e := h.eq
      have : c = 1 := by omega
      subst this
      have g1 := val_take_le 65536 xs k
      have g2 := val_take_le 65536 ys k
      omega

set_option maxHeartbeats 1000000 in
theorem addR_any {w : World} {va vb : Value} {m n : Nat} (ha : IsR w va m) (hb : IsR w vb n) (L : Nat) (hL : L ≤ 8589934592) (hm : m < P2 L) (hn : n < P2 L) :
    Calls Try.prog 56 #[va, vb] w (RetR w (m + n)) := by
  obtain ⟨xs, ha, hca, rfl⟩ := ha
  obtain ⟨ys, hb, hcb, rfl⟩ := hb
  have l1 := hca.len_R hm
  have l2 := hcb.len_R hn
  have ha' := id ha
  have hb' := id hb
  obtain ⟨ao, n, cap, b, off, rfl, hs⟩ := ha
  obtain ⟨ao2, n2, cap2, b2, off2, rfl, hs2⟩ := hb
  rw [hs.len] at l1
  rw [hs2.len] at l2
  clear hm hn
  have e1 := hs.len
  have e2 := hs2.len
  have E1 := Lib.hid e1
  have E2 := Lib.hid e2
  clear e1 e2
  go_enter Try.func56, Try.ntmps56
  go_wp2
  go_loopw [5, 6, 7] (fun o c i wr => ∃ (k cc : Nat) (zs : List Nat), i = .int .i64 k ∧ c = .int .i64 cc ∧ k ≤ n + n2 + 1 ∧ (k = n + n2 + 1 → cc = 0) ∧ AddR xs ys zs k cc ∧ Row wr w.heap.size .i64 3 o zs ∧ Below w.heap.size w wr)
    (fun _ c i _ => 2 * (n + n2 + 1 - (intOf i).toNat) + (intOf c).toNat)
  case atStart => exact ⟨0, 0, [], rfl, rfl, by omega, by omega, ⟨rfl, Dg.nil _, by omega, by simp [val], .inl rfl⟩, Row.nil _ _ _ _, Below.refl _ _⟩
  case round =>
    obtain ⟨k, cc, zs, rfl, rfl, hk, hkc, hinv, hrow, hbel⟩ := hrel
    have hsz := hbel.size
    have hcar := hinv.car
    have hzl : zs.length < 1099511627776 := by rw [hinv.len]; omega
    by_cases hr : k < n ∨ k < n2 ∨ 0 < cc
    · have hx := hca.1.nth (by omega) k
      have hy := hcb.1.nth (by omega) k
      have HI := Lib.hid (hinv.step hca hcb (by rw [E1.out, E2.out]; exact hr))
      have hcz : n + n2 ≤ k → nth xs k = 0 ∧ nth ys k = 0 := fun h => ⟨nth_ge (by rw [E1.out]; omega), nth_ge (by rw [E2.out]; omega)⟩
      have HZ := Lib.hid hcz
      have hkle : k ≤ n + n2 := by
        by_cases h : k = n + n2 + 1
        · have := hkc h; omega
        · omega
      have A1 : Calls Try.prog 104 #[.slice ao n cap, .int .i64 k] wr _ := at_any (ha'.below hbel) k (by omega)
      have A2 : Calls Try.prog 104 #[.slice ao2 n2 cap2, .int .i64 k] wr _ := at_any (hb'.below hbel) k (by omega)
      have B1 := Lib.hid A1
      have B2 := Lib.hid A2
      clear A1 A2 hcz hkc
      generalize hgx : nth xs k = x at *
      generalize hgy : nth ys k = y at *
      clear hgx hgy
      have hr' : k < n ∨ (n ≤ k ∧ k < n2) ∨ (n ≤ k ∧ n2 ≤ k ∧ 0 < cc) := by omega
      clear hr
      rcases hr' with hr | ⟨hr, hr2⟩ | ⟨hr, hr2, hr3⟩
      all_goals
        go_wp2_with fail
        refine B1.out.mono ?_
        rintro e w1 ⟨rfl, rfl⟩
        go_wp2_with fail
        refine B2.out.mono ?_
        rintro e w1 ⟨rfl, rfl⟩
        go_wp2_with (at_builtin; go_loud (refine wpList_append_row _ rfl _ _ 29 rfl w.heap.size 3 .i64 8 Try.underlying29 (by kernel_rfl) (by omega) _ zs _ ((cc + (x + y)) % 65536) (by rfl) hrow (by rfl) (by first | rfl | omega) hzl hsz ?_; intro v' w' hrow' hbel' _))
        go_roundw
        case rel => exact ⟨k + 1, (cc + (x + y)) / 65536, _, by go_num, by go_num, by omega, by intro h; have := HZ.out (by omega); omega, HI.out, hrow', hbel.trans hbel'⟩
        case measure => simp [intOf]; omega
    · have hc0 : cc = 0 := by omega
      subst hc0
      have hv : val 65536 zs = val 65536 xs + val 65536 ys := by
        have := hinv.eq
        rw [val_take_ge _ (by rw [E1.out]; omega), val_take_ge _ (by rw [E2.out]; omega)] at this
        omega
      have HV := Lib.hid hv
      clear hv
      go_wp2
      go_ret
      refine ⟨_, rfl, ⟨zs, hrow.sl (by omega) hinv.dg.wf16, can_of_ge (by omega) hinv.dg (by rw [HV.out]; exact hinv.can), HV.out⟩, hbel⟩

theorem Sl.heap {w w' : World} {K : IntKind} {v : Value} {xs : List Nat} (h : Sl w K v xs) (e : w'.heap = w.heap) : Sl w' K v xs := by
  obtain ⟨ao, n, cap, b, off, rfl, hs⟩ := h
  exact (hs.heap e).sl

theorem at_part {v : Value} {xs : List Nat} {w : World} (h : Sl w .i64 v xs) (i : Nat) (hi : i ≤ 4611686018427387904) :
    Hid (∀ w', w'.heap = w.heap → Calls Try.prog 104 #[v, .int .i64 i] w' fun e w'' => e = .returned (.int .i64 (nth xs i)) ∧ w'' = w') :=
  Lib.hid fun _ e => at_any (h.heap e) i hi

structure SubR (xs ys zs : List Nat) (k c : Nat) : Prop where
  len : zs.length = k
  dg : Dg 65536 zs
  car : c ≤ 1
  eq : val 65536 (xs.take k) + 65536 ^ k * c = val 65536 zs + val 65536 (ys.take k)

theorem SubR.step {xs ys zs : List Nat} {k c d c' : Nat} (h : SubR xs ys zs k c) (hc : c' ≤ 1) (hd : d < 65536) (he : d + (nth ys k + c) = nth xs k + 65536 * c') :
    SubR xs ys (zs ++ [d]) (k + 1) c' := by
  refine ⟨by simp [h.len], h.dg.snoc hd, hc, ?_⟩
  rw [val_snoc, val_take_succ, val_take_succ, Nat.pow_succ, Nat.mul_assoc, h.len]
  have e := h.eq
  have e2 : 65536 ^ k * (d + (nth ys k + c)) = 65536 ^ k * (nth xs k + 65536 * c') := by rw [he]
  rw [Nat.mul_add, Nat.mul_add, Nat.mul_add] at e2
  omega

theorem SubR.done {xs ys zs : List Nat} {k c : Nat} (h : SubR xs ys zs k c) (hx : xs.length = k) (hy : ys.length ≤ k) (hle : val 65536 ys ≤ val 65536 xs) :
    val 65536 zs = val 65536 xs - val 65536 ys := by
  have e := h.eq
  rw [val_take_ge _ (Nat.le_of_eq hx), val_take_ge _ hy] at e
  have h1 := val_lt h.dg
  rw [h.len] at h1
  have := h.car
  by_cases hc : c = 0
  · subst hc; omega
  · have : c = 1 := by omega
    subst this
    omega

set_option maxHeartbeats 1000000 in
theorem subR_any {w : World} {va vb : Value} {m n : Nat} (ha : IsR w va m) (hb : IsR w vb n) (L : Nat) (hL : L ≤ 8589934592) (hm : m < P2 L) (hmn : n ≤ m) :
    Calls Try.prog 57 #[va, vb] w (RetR w (m - n)) := by
  obtain ⟨xs, ha, hca, rfl⟩ := ha
  obtain ⟨ys, hb, hcb, rfl⟩ := hb
  have l1 := hca.len_R hm
  have l2 : ys.length ≤ xs.length := hcb.len_le (by omega) (Nat.lt_of_le_of_lt hmn (val_lt hca.1))
  have ha' := id ha
  have hb' := id hb
  obtain ⟨ao, n, cap, b, off, rfl, hs⟩ := ha
  obtain ⟨ao2, n2, cap2, b2, off2, rfl, hs2⟩ := hb
  have E1 := Lib.hid hs.len
  have E2 := Lib.hid hs2.len
  rw [E1.out] at l1 l2
  rw [E2.out] at l2
  have HM := Lib.hid hmn
  clear hm hmn
  go_enter Try.func57, Try.ntmps57
  go_wp2
  go_loopw [5, 6, 7, 8] (fun o c i _ wr => ∃ (k cc : Nat) (zs : List Nat), i = .int .i64 k ∧ c = .int .i64 cc ∧ k ≤ n ∧ SubR xs ys zs k cc ∧ Row wr w.heap.size .i64 3 o zs ∧ Below w.heap.size w wr)
    (fun _ _ i _ _ => n - (intOf i).toNat)
  case atStart => exact ⟨0, 0, [], rfl, rfl, by omega, ⟨rfl, Dg.nil _, by omega, by simp [val]⟩, Row.nil _ _ _ _, Below.refl _ _⟩
  case round =>
    obtain ⟨k, cc, zs, rfl, rfl, hk, hinv, hrow, hbel⟩ := hrel
    have hsz := hbel.size
    have hcar := hinv.car
    have hzl : zs.length < 1099511627776 := by rw [hinv.len]; omega
    by_cases hlt : k < n
    · have hx := hca.1.nth (by omega) k
      have hy := hcb.1.nth (by omega) k
      obtain rfl := hs.addr.resolve_right (by omega)
      have hc1 : wr.cell? ⟨b, off + k, none⟩ = some (.int .i64 (nth xs k)) := by
        rw [hbel.cell (p := ⟨b, off + k, none⟩) (hs.lt (by omega))]; exact hs.cells k hlt
      have B2 := at_part (hb'.below hbel) k (by omega)
      have HI := Lib.hid (fun d c' => hinv.step (d := d) (c' := c'))
      generalize hgx : nth xs k = x at *
      generalize hgy : nth ys k = y at *
      clear hgx hgy
      by_cases hneg : x < y + cc
      · have t1 : decide ((x : Int) - y - cc < 0) = true := decide_eq_true (by omega)
        go_wp2
        go_quiet ((go_at_call 104; (with_reducible refine Calls.quiet_of_same (B2.out _ ?_)); rfl))
        go_wp2_with (at_builtin; go_loud (refine wpList_append_row _ rfl _ _ 29 rfl w.heap.size 3 .i64 8 Try.underlying29 (by kernel_rfl) (by omega) _ zs _ (x + 65536 - y - cc) (by rfl) (hrow.keep (below_drewN' (Below.refl _ _) _) (Nat.le_refl _)) (by rfl) (by first | rfl | omega) hzl hsz ?_; intro v' w' hrow' hbel' _))
        go_roundw
        case rel => exact ⟨k + 1, 1, _, by go_num, by go_num, by omega, HI.out _ _ (by omega) (by omega) (by omega), hrow', (below_drewN' hbel _).trans hbel'⟩
        case measure => simp [intOf]; omega
      · have t1 : decide ((x : Int) - y - cc < 0) = false := decide_eq_false (by omega)
        go_wp2
        go_quiet ((go_at_call 104; (with_reducible refine Calls.quiet_of_same (B2.out _ ?_)); rfl))
        go_wp2_with (at_builtin; go_loud (refine wpList_append_row _ rfl _ _ 29 rfl w.heap.size 3 .i64 8 Try.underlying29 (by kernel_rfl) (by omega) _ zs _ (x - y - cc) (by rfl) (hrow.keep (below_drewN' (Below.refl _ _) _) (Nat.le_refl _)) (by rfl) (by first | rfl | omega) hzl hsz ?_; intro v' w' hrow' hbel' _))
        go_roundw
        case rel => exact ⟨k + 1, 0, _, by go_num, by go_num, by omega, HI.out _ _ (by omega) (by omega) (by omega), hrow', (below_drewN' hbel _).trans hbel'⟩
        case measure => simp [intOf]; omega
    · obtain rfl : k = n := by omega
      have HF := Lib.hid (hinv.done E1.out (by rw [E2.out]; omega) HM.out)
      go_wp2_with fail
      refine (trim_any _ zs _ (hrow.sl (by omega) hinv.dg.wf16)).mono ?_
      intro e w2 hr
      obtain ⟨v, rfl, hv, hb3⟩ := hr.numR hinv.dg HF.out hbel
      go_wp2
      go_ret
      exact ⟨_, rfl, hv, hb3⟩

end Go.Proofs.Ytppbhjhbaknidaa

/-
  The contract of the specification's Mul. Condition: numbers of at most 2^33 bits.
-/
namespace Go.Proofs.Ytppbhjhbaknidaa
open Go.RowKit

theorem mul_bdR {x y : Nat} (hx : x < 65536) (hy : y < 65536) : x * y ≤ 4294836225 := by
  have := Nat.mul_le_mul (show x ≤ 65535 by omega) (show y ≤ 65535 by omega)
  omega

structure MulRI (xs ys zs0 zs : List Nat) (i k c : Nat) : Prop where
  len : zs.length = zs0.length
  dg : Dg 65536 zs
  car : c < 65536
  eq : val 65536 zs + 65536 ^ (i + k) * c = val 65536 zs0 + 65536 ^ i * (nth xs i * val 65536 (ys.take k))

structure MulRO (xs ys zs : List Nat) (i : Nat) : Prop where
  len : zs.length = xs.length + ys.length
  dg : Dg 65536 zs
  eq : val 65536 zs = val 65536 (xs.take i) * val 65536 ys

theorem MulRI.zero {xs ys zs0 : List Nat} (h : Dg 65536 zs0) (i : Nat) : MulRI xs ys zs0 zs0 i 0 0 := ⟨rfl, h, by omega, by simp [val]⟩

theorem MulRI.in {xs ys zs0 zs : List Nat} {i k c : Nat} (g : MulRO xs ys zs0 i) (h : MulRI xs ys zs0 zs i k c) (hx : Dg 65536 xs) (hy : Dg 65536 ys) (hi : i < xs.length) (hk : k < ys.length ∨ 0 < c) : i + k < xs.length + ys.length := by
  by_cases hlt : k < ys.length
  · omega
  · have hc : 0 < c := by omega
    have e := h.eq
    rw [val_take_ge _ (by omega), g.eq] at e
    have e2 : val 65536 (xs.take i) * val 65536 ys + 65536 ^ i * (nth xs i * val 65536 ys) = val 65536 (xs.take (i + 1)) * val 65536 ys := by
      rw [val_take_succ, Nat.add_mul, Nat.mul_assoc]
    rw [e2] at e
    have b1 := val_lt (hx.take (i + 1))
    rw [List.length_take, Nat.min_eq_left (by omega)] at b1
    have b2 := val_lt hy
    have b3 := Nat.mul_lt_mul'' b1 b2
    rw [← Nat.pow_add, ← e] at b3
    have b4 : 65536 ^ (i + k) * 1 ≤ 65536 ^ (i + k) * c := Nat.mul_le_mul_left _ hc
    have b5 : 65536 ^ (i + k) < 65536 ^ (i + 1 + ys.length) := by omega
    have := (Nat.pow_lt_pow_iff_right (by omega)).1 b5
    omega

theorem MulRI.step {xs ys zs0 zs : List Nat} {i k c : Nat} (h : MulRI xs ys zs0 zs i k c) (hx : Dg 65536 xs) (hy : Dg 65536 ys) (hi : i + k < zs0.length) :
    MulRI xs ys zs0 (zs.set (i + k) ((c + (nth zs (i + k) + nth xs i * nth ys k)) % 65536)) i (k + 1) ((c + (nth zs (i + k) + nth xs i * nth ys k)) / 65536) := by
  have b1 := mul_bdR (hx.nth (by omega) i) (hy.nth (by omega) k)
  have b2 := h.dg.nth (by omega) (i + k)
  have b3 := h.car
  have hv := val_set 65536 zs (i + k) ((c + (nth zs (i + k) + nth xs i * nth ys k)) % 65536) (by rw [h.len]; exact hi)
  refine ⟨by rw [List.length_set, h.len], h.dg.set _ (Nat.mod_lt _ (by omega)), by omega, ?_⟩
  have e := h.eq
  rw [val_take_succ, Nat.mul_add (nth xs i), Nat.mul_add (65536 ^ i)]
  have e3 : 65536 ^ i * (nth xs i * (65536 ^ k * nth ys k)) = 65536 ^ (i + k) * (nth xs i * nth ys k) := by
    rw [Nat.pow_add]; simp only [Nat.mul_assoc, Nat.mul_left_comm]
  rw [e3, ← Nat.add_assoc i k 1, Nat.pow_succ 65536 (i + k), Nat.mul_assoc]
  generalize 65536 ^ (i + k) = p at *
  generalize hs : c + (nth zs (i + k) + nth xs i * nth ys k) = s at *
  have e2 : p * (s % 65536) + p * (65536 * (s / 65536)) = p * (nth xs i * nth ys k) + p * nth zs (i + k) + p * c := by
    rw [← Nat.mul_add, Nat.mod_add_div, ← hs, Nat.mul_add, Nat.mul_add]; omega
  omega

theorem MulRO.zero (xs ys : List Nat) (n : Nat) (h : n = xs.length + ys.length) : MulRO xs ys (List.replicate n 0) 0 :=
  ⟨by simp [h], Dg.zeros (by omega) _, by simp [val_zeros, val]⟩

theorem MulRO.step {xs ys zs0 zs : List Nat} {i k : Nat} (h : MulRO xs ys zs0 i) (g : MulRI xs ys zs0 zs i k 0) (hk : ys.length ≤ k) : MulRO xs ys zs (i + 1) := by
  refine ⟨by rw [g.len, h.len], g.dg, ?_⟩
  have e := g.eq
  rw [val_take_ge _ hk, h.eq, Nat.mul_zero, Nat.add_zero] at e
  rw [e, val_take_succ, Nat.add_mul, Nat.mul_assoc]

set_option maxHeartbeats 1000000 in
theorem mulR_any {w : World} {va vb : Value} {m n : Nat} (ha : IsR w va m) (hb : IsR w vb n) (L : Nat) (hL : L ≤ 8589934592) (hm : m < P2 L) (hn : n < P2 L) :
    Calls Try.prog 38 #[va, vb] w (RetR w (m * n)) := by
  obtain ⟨xs, ha, hca, rfl⟩ := ha
  obtain ⟨ys, hb, hcb, rfl⟩ := hb
  have l1 := hca.len_R hm
  have l2 := hcb.len_R hn
  have hb' := id hb
  obtain ⟨ao, n, cap, b, off, rfl, hs⟩ := ha
  obtain ⟨ao2, n2, cap2, b2, off2, rfl, hs2⟩ := hb
  have E1 := Lib.hid hs.len
  have E2 := Lib.hid hs2.len
  rw [E1.out] at l1
  rw [E2.out] at l2
  have hda := hca.1
  have hdb := hcb.1
  clear hm hn
  go_enter Try.func38, Try.ntmps38
  go_wp2_with (first | (at_make; refine wpList_make_nums _ rfl _ _ 29 rfl 3 .i64 8 Try.underlying29 (by kernel_rfl) .i64 .i64 _ _ (n + n2) rfl rfl rfl rfl (by omega) (by omega) ?_; intro w1 hown hbel))
  go_loopw [6] (fun i wr => ∃ (k : Nat) (zs : List Nat), k ≤ n ∧ i = .int .i64 k ∧ MulRO xs ys zs k ∧ Own wr .i64 3 w.heap.size zs ∧ Below w.heap.size w wr)
    (fun i _ => n - (intOf i).toNat)
  case atStart => exact ⟨0, _, Nat.zero_le _, rfl, MulRO.zero xs ys (n + n2) (by rw [hs.len, hs2.len]), hown, hbel⟩
  case round =>
    obtain ⟨i, zs0, hi, rfl, hinv, hown0, hbel0⟩ := hrel
    clear hown hbel
    by_cases hlt : i < n
    · obtain rfl := hs.addr.resolve_right (by omega)
      have hx := hda.nth (by omega) i
      go_wp2
      obtain ⟨wo, rfl⟩ : ∃ wo : World, wo = wr := ⟨_, rfl⟩
      go_loopw [7, 8] (fun c k wr => ∃ (j cc : Nat) (zs : List Nat), i + j ≤ n + n2 ∧ k = .int .i64 j ∧ c = .int .i64 cc ∧ MulRI xs ys zs0 zs i j cc ∧ Own wr .i64 3 w.heap.size zs ∧ Below w.heap.size w wr)
        (fun _ k _ => n + n2 - (intOf k).toNat)
      case atStart => exact ⟨0, 0, zs0, by omega, rfl, rfl, MulRI.zero hinv.dg _, hown0, hbel0⟩
      case round =>
        obtain ⟨j, cc, zs, hj, rfl, rfl, hin, hown1, hbel1⟩ := hrel
        have hcc := hin.car
        have HLZ : Hid (zs.length = n + n2) := by rw [hin.len, hinv.len, E1.out, E2.out]; rfl
        by_cases hr : j < n2 ∨ 0 < cc
        · have hij := MulRI.in hinv hin hda hdb (by rw [E1.out]; exact hlt) (by rw [E2.out]; exact hr)
          rw [E1.out, E2.out] at hij
          have hc1 : wr.cell? ⟨b, off + i, none⟩ = some (.int .i64 (nth xs i)) := by
            rw [hbel1.cell (p := ⟨b, off + i, none⟩) (hs.lt (by omega))]; exact hs.cells i hlt
          have ho : wr.cell? ⟨w.heap.size, i + j, none⟩ = some (.int .i64 (nth zs (i + j))) := hown1.cell (by rw [HLZ.out]; omega)
          have hf := hown1.frozen (i + j)
          have hy := hdb.nth (by omega) j
          have hz := hin.dg.nth (by omega) (i + j)
          have hbb : 0 ≤ (nth xs i : Int) * (nth ys j : Int) ∧ (nth xs i : Int) * (nth ys j : Int) ≤ 4294836225 := by
            have := mul_bdR hx hy
            rw [← Int.natCast_mul]; omega
          obtain ⟨hb0, hb1⟩ := hbb
          have HF := Lib.hid (hin.step hda hdb (by rw [hinv.len, E1.out, E2.out]; omega))
          have B2 := at_part (hb'.below hbel1) j (by omega)
          have hr' : j < n2 ∨ (n2 ≤ j ∧ 0 < cc) := by omega
          clear hr
          rcases hr' with hr | ⟨hr, hr2⟩
          all_goals
            go_wp2
            go_quiet ((go_at_call 104; (with_reducible refine Calls.quiet_of_same (B2.out _ ?_)); rfl))
            go_wp2
            go_roundw
            case rel =>
              refine ⟨j + 1, _, _, by omega, by go_num, ?_, HF.out, ?_, (below_drewN' hbel1 _).setCell (Nat.le_refl _) _⟩
              · refine congrArg _ ?_; rw [← Int.natCast_mul]; omega
              · exact (hown1.drewN _).seti (i + j) _ (by rw [← Int.natCast_mul]; omega)
            case measure => simp [intOf]; omega
        · have hc0 : cc = 0 := by omega
          subst hc0
          have HF := Lib.hid (hinv.step hin (by rw [E2.out]; omega))
          go_wp2
          go_roundw
          case rel => exact ⟨i + 1, zs, by omega, by go_num, HF.out, hown1, hbel1⟩
          case measure => simp [intOf]; omega
    · obtain rfl : i = n := by omega
      have hfin : val 65536 zs0 = val 65536 xs * val 65536 ys := by
        rw [hinv.eq, val_take_ge _ (Nat.le_of_eq E1.out)]
      have HF := Lib.hid hfin
      clear hfin
      have HL := Lib.hid hinv.len
      go_wp2_with fail
      refine (trim_any _ zs0 _ (hown0.sl (n := i + n2) (by rw [HL.out, E1.out, E2.out]) (by omega) hinv.dg.wf16)).mono ?_
      intro e w2 hr
      obtain ⟨v, rfl, hv, hb3⟩ := hr.numR hinv.dg HF.out hbel0
      go_wp2
      go_ret
      exact ⟨_, rfl, hv, hb3⟩

end Go.Proofs.Ytppbhjhbaknidaa

/-
  The contracts of the specification's Small. Condition: numbers of at most 2^33 bits, a divisor from 1 to 2^16.
-/
namespace Go.Proofs.Ytppbhjhbaknidaa
open Go.RowKit

structure SmallInv (xs qs : List Nat) (d n j r : Nat) : Prop where
  len : qs.length = n - j
  dg : Dg 65536 qs
  rest : r < d
  eq : val 65536 qs * d + r = val 65536 (xs.drop j)

theorem SmallInv.zero {xs : List Nat} {d n : Nat} (hd : 0 < d) (hn : xs.length = n) : SmallInv xs [] d n n 0 :=
  ⟨by simp, Dg.nil _, hd, by rw [List.drop_of_length_le (by omega)]; simp [val]⟩

theorem SmallInv.step {xs qs : List Nat} {d n k r : Nat} (h : SmallInv xs qs d n (k + 1) r) (hx : Dg 65536 xs) (hn : xs.length = n) (hk : k < n) :
    SmallInv xs ((nth xs k + 65536 * r) / d :: qs) d n k ((nth xs k + 65536 * r) % d) ∧ (nth xs k + 65536 * r) / d < 65536 := by
  have h0 := hx.nth (by omega) k
  have hr := h.rest
  have hq : (nth xs k + 65536 * r) / d < 65536 := by
    rw [Nat.div_lt_iff_lt_mul (by omega)]
    have : 65536 * (r + 1) ≤ 65536 * d := Nat.mul_le_mul_left _ hr
    omega
  refine ⟨⟨by rw [List.length_cons, h.len]; omega, ?_, Nat.mod_lt _ (by omega), ?_⟩, hq⟩
  · intro x hx
    rcases List.mem_cons.1 hx with hx | hx
    · rw [hx]; exact hq
    · exact h.dg x hx
  · rw [val_drop_cons _ (by omega), ← h.eq, val]
    have e := Nat.mod_add_div (nth xs k + 65536 * r) d
    generalize (nth xs k + 65536 * r) / d = q at *
    generalize (nth xs k + 65536 * r) % d = t at *
    rw [Nat.add_mul, Nat.mul_assoc, Nat.mul_add]
    rw [Nat.mul_comm d q] at e
    omega

theorem trim_own {w : World} {g n : Nat} {xs : List Nat} (h : Own w .i64 3 g xs) (hn : xs.length = n) (hm : n ≤ 1099511627776) (hd : Dg 65536 xs) :
    Calls Try.prog 105 #[.slice (some ⟨g, 0, none⟩) n n] w fun e w' => ∃ v, e = .returned v ∧ v.ownBlock = some g ∧ IsR w v (val 65536 xs) ∧ w' = w := by
  have hs := h.slAt hn hm hd.wf16
  refine (trim_val hs).mono ?_
  rintro e w' ⟨rfl, rfl⟩
  have ht := trim_spec xs
  rw [hs.len] at ht
  have := (hs.head ht.1).sl
  rw [← ht.2] at this
  exact ⟨_, rfl, rfl, ⟨_, this, hd.can, val_trim _ _⟩, rfl⟩

def RetRI (w : World) (n : Nat) (r : Nat) (e : Ending) (w' : World) : Prop := ∃ v, e = .returned (.tuple #[v, .int .i64 r]) ∧ IsR w' v n ∧ Below w.heap.size w w' ∧ (∀ k, v.ownBlock = some k → w.heap.size ≤ k)

set_option maxHeartbeats 1000000 in
theorem small_any {w : World} {v : Value} {m : Nat} (ha : IsR w v m) (d : Nat) (hd0 : 1 ≤ d) (hd : d ≤ 65536) (L : Nat) (hL : L ≤ 8589934592) (hm : m < P2 L) :
    Calls Try.prog 120 #[v, .int .i64 d] w (RetRI w (m / d) (m % d)) := by
  obtain ⟨xs, ha, hca, rfl⟩ := ha
  have l1 := hca.len_R hm
  obtain ⟨ao, n, cap, b, off, rfl, hs⟩ := ha
  rw [hs.len] at l1
  have hnb : n ≤ 600000000 := by omega
  have hle := hs.le
  have hmax := hs.max
  have hda := hca.1
  clear hm
  go_enter Try.func120, Try.ntmps120
  go_wp2_with (first | (at_make; refine wpList_make_nums _ rfl _ _ 29 rfl 3 .i64 8 Try.underlying29 (by kernel_rfl) .i64 .i64 _ _ n rfl rfl rfl rfl (by omega) (by omega) ?_; intro w1 hown hbel))
  go_loopw [7, 8] (fun c i wr => ∃ (j r : Nat) (qs : List Nat), j ≤ n ∧ i = .int .i64 ((j : Int) - 1) ∧ c = .int .i64 r ∧ SmallInv xs qs d n j r ∧ Own wr .i64 3 w.heap.size (List.replicate j 0 ++ qs) ∧ Below w.heap.size w wr)
    (fun _ i _ => (intOf i + 1).toNat)
  case atStart => exact ⟨n, 0, [], Nat.le_refl _, rfl, rfl, SmallInv.zero (by omega) hs.len, by simpa using hown, hbel⟩
  case round =>
    obtain ⟨j, r, qs, hj, rfl, rfl, hinv, hown1, hbel1⟩ := hrel
    clear hown hbel
    have hr := hinv.rest
    by_cases h0 : j = 0
    · subst h0
      rw [List.replicate_zero, List.nil_append] at hown1
      have hfin : val 65536 qs = val 65536 xs / d ∧ r = val 65536 xs % d := by
        have e := hinv.eq
        rw [List.drop_zero] at e
        rw [← e, Nat.mul_comm, Nat.mul_add_div (by omega), Nat.mul_add_mod, Nat.div_eq_of_lt hr, Nat.mod_eq_of_lt hr]
        exact ⟨rfl, rfl⟩
      have HF := Lib.hid hfin
      clear hfin
      have HL := Lib.hid hinv.len
      have hd0 : decide ((0 : Int) ≤ ((0 : Nat) : Int) - 1) = false := rfl
      go_wp2_with fail
      refine (trim_own hown1 (n := n) (by rw [HL.out]; rfl) (by omega) hinv.dg).mono ?_
      rintro e w2 ⟨v, rfl, hvb, hv, rfl⟩
      go_wp2
      go_ret2
      refine ⟨v, ?_, ?_, hbel1, fun k hk => ?_⟩
      · rw [← HF.out.2]; rfl
      · rw [← HF.out.1]; exact hv
      · rw [hvb] at hk; cases hk; exact Nat.le_refl _
    · obtain ⟨k, rfl⟩ : ∃ k, j = k + 1 := ⟨j - 1, by omega⟩
      rw [show ((k + 1 : Nat) : Int) - 1 = (k : Int) by omega]
      obtain rfl := hs.addr.resolve_right (by omega)
      have hc1 : wr.cell? ⟨b, off + k, none⟩ = some (.int .i64 (nth xs k)) := by
        rw [hbel1.cell (p := ⟨b, off + k, none⟩) (hs.lt (by omega))]; exact hs.cells k (by omega)
      have ho : wr.cell? ⟨w.heap.size, k, none⟩ = some (.int .i64 (nth (List.replicate (k + 1) 0 ++ qs) k)) := hown1.cell (by rw [List.length_append, hinv.len, List.length_replicate]; omega)
      have hf := hown1.frozen k
      have hx := hda.nth (by omega) k
      have HS := Lib.hid (hinv.step hda hs.len (by omega))
      go_wp2
      go_roundw
      case rel =>
        have e1 : ((r : Int) * 65536 + (nth xs k : Int)) % (d : Int) = (((nth xs k + 65536 * r) % d : Nat) : Int) := by
          rw [Int.natCast_emod, Int.natCast_add, Int.natCast_mul, Int.add_comm, Int.mul_comm]; rfl
        have e2 : ((r : Int) * 65536 + (nth xs k : Int)) / (d : Int) = (((nth xs k + 65536 * r) / d : Nat) : Int) := by
          rw [Int.natCast_ediv, Int.natCast_add, Int.natCast_mul, Int.add_comm, Int.mul_comm]; rfl
        rw [e1, e2]
        refine ⟨k, _, _, by omega, rfl, rfl, HS.out.1, ?_, hbel1.setCell (Nat.le_refl _) _⟩
        rw [← set_front]
        have hq := HS.out.2
        generalize (nth xs k + 65536 * r) / d = q at hq ⊢
        exact hown1.seti k _ (by omega)
      case measure => simp [intOf]
end Go.Proofs.Ytppbhjhbaknidaa

/-
  Numerals as lists of bytes: the numeral of a number, the number of a numeral. No condition.
-/
namespace Go.Proofs.Ytppbhjhbaknidaa
open Go.RowKit

/-- The bytes of the decimal digits of n, the lowest first; none for 0. -/
def rdec (n : Nat) : List Nat := if h : n = 0 then [] else (48 + n % 10) :: rdec (n / 10)
termination_by n
decreasing_by omega

theorem rdec_zero : rdec 0 = [] := by rw [rdec]; rfl
theorem rdec_pos {n : Nat} (h : n ≠ 0) : rdec n = (48 + n % 10) :: rdec (n / 10) := by rw [rdec, dif_neg h]
theorem rdec_byte (n : Nat) : ∀ x ∈ rdec n, 48 ≤ x ∧ x ≤ 57 := by
  induction n using Nat.strongRecOn with
  | ind n ih =>
    intro x hx
    by_cases h : n = 0
    · subst h; rw [rdec_zero] at hx; exact absurd hx List.not_mem_nil
    · rw [rdec_pos h] at hx
      rcases List.mem_cons.1 hx with hx | hx
      · omega
      · exact ih (n / 10) (by omega) x hx
theorem rdec_len {n : Nat} : ∀ {L : Nat}, n < P2 L → (rdec n).length ≤ L := by
  induction n using Nat.strongRecOn with
  | ind n ih =>
    intro L hL
    by_cases h : n = 0
    · subst h; rw [rdec_zero]; exact Nat.zero_le _
    · rw [rdec_pos h, List.length_cons]
      match L, hL with
      | 0, hL => unfold P2 at hL; omega
      | L + 1, hL =>
        rw [P2_succ] at hL
        have := ih (n / 10) (by omega) (L := L) (by omega)
        omega

/-- The bytes of the numeral of n. -/
def decs (n : Nat) : List Nat := if n = 0 then [48] else (rdec n).reverse

/-- The string of these bytes. -/
def bstr (zs : List Nat) : ByteArray := ⟨(zs.map UInt8.ofNat).toArray⟩
def txt (n : Nat) : ByteArray := bstr (decs n)
theorem strOfNums_bstr (zs : List Nat) : strOfNums (zs.map fun (x : Nat) => (x : Int)) = bstr zs := by
  simp [strOfNums, bstr]
theorem txt_zero : txt 0 = ⟨#[48]⟩ := rfl

theorem Row.cell {w : World} {B : Nat} {K : IntKind} {E : TypeId} {g n cap : Nat} {xs : List Nat} (h : Row w B K E (.slice (some ⟨g, 0, none⟩) n cap) xs) {i : Nat} (hi : i < xs.length) : w.cell? ⟨g, i, none⟩ = some (.int K (nth xs i)) := by
  rcases h.2 with ⟨h1, h2⟩ | ⟨g', cap', cur, hv, _, hg, hc, hcm, hs, ht⟩
  · cases h1
  · cases hv
    have h1 : (intsOf K xs)[i]? = cur[i]? := by
      rw [← ht, List.getElem?_take_of_lt (by omega)]; simp
    have h2 : (intsOf K xs)[i]? = some (.int K (nth xs i)) := by
      simp [intsOf, nth_lt hi, hi]
    simp only [World.cell?, hg]
    rw [← h1, h2]
    rfl

theorem Row.frozen {w : World} {B : Nat} {K : IntKind} {E : TypeId} {g n cap : Nat} {xs : List Nat} (h : Row w B K E (.slice (some ⟨g, 0, none⟩) n cap) xs) (i : Nat) : w.frozen? ⟨g, i, none⟩ = false := by
  rcases h.2 with ⟨h1, h2⟩ | ⟨g', cap', cur, hv, _, hg, hc, hcm, hs, ht⟩
  · cases h1
  · cases hv
    simp [World.frozen?, hg]

theorem Row.seti {w : World} {B : Nat} {K : IntKind} {E : TypeId} {g n cap : Nat} {xs : List Nat} (h : Row w B K E (.slice (some ⟨g, 0, none⟩) n cap) xs) (i : Nat) {z : Int} (d : Nat) (hz : z = d) :
    Row (w.setCell ⟨g, i, none⟩ (.int K z)) B K E (.slice (some ⟨g, 0, none⟩) n cap) (xs.set i d) := by
  subst hz
  rcases h.2 with ⟨h1, h2⟩ | ⟨g', cap', cur, hv, hB, hg, hc, hcm, hs, ht⟩
  · cases h1
  · cases hv
    have e1 : (intsOf K xs).length = xs.length := by simp [intsOf]
    refine ⟨by simp [intsOf], .inr ⟨g, cap, cur.setIfInBounds i (.int K d), by rw [List.length_set], hB, ?_, by rw [List.length_set]; exact hc, hcm, by simpa using hs, ?_⟩⟩
    · simp [World.setCell, Array.getElem?_modify, hg]
    · rw [List.length_set, Array.toList_setIfInBounds, List.take_set, ht]
      simp [intsOf, List.map_set]

theorem IsR.kept {w w' : World} {v r : Value} {m : Nat} (h : IsR w v m) (hk : ∀ k, v.ownBlock = some k → r.ownBlock ≠ some k)
    (he : ∀ k, k < w.heap.size → r.ownBlock ≠ some k → w'.heap[k]? = w.heap[k]?) : IsR w' v m := by
  obtain ⟨xs, ⟨ao, n, cap, b, off, rfl, hs⟩, hc, hv⟩ := h
  refine ⟨xs, ⟨ao, n, cap, b, off, rfl, { hs with cells := fun i hi => ?_ }⟩, hc, hv⟩
  obtain rfl := hs.addr.resolve_right (by omega)
  rw [← hs.cells i hi]
  simp only [World.cell?]
  rw [he b (hs.lt (by omega)) (hk b rfl)]

theorem IsR.slice {w : World} {v : Value} {n : Nat} (h : IsR w v n) : ∃ ao k cap, v = .slice ao k cap ∧ (k = 0 ↔ n = 0) ∧ k ≤ 1099511627776 := by
  obtain ⟨xs, ⟨ao, k, cap, b, off, hv, hs⟩, hc, hn⟩ := h
  refine ⟨ao, k, cap, hv, ⟨fun h0 => ?_, fun h0 => ?_⟩, hs.max.1⟩
  · have : xs = [] := List.length_eq_zero_iff.1 (by rw [hs.len, h0])
    rw [← hn, this]; rfl
  · have := hc.zero (by omega) (by rw [hn, h0])
    rw [← hs.len, this]; rfl

end Go.Proofs.Ytppbhjhbaknidaa

/-
  The contract of the specification's Text: the numeral. Condition: numbers of at most 2^30 bits.
-/
namespace Go.Proofs.Ytppbhjhbaknidaa
open Go.RowKit

def RetS (w : World) (s : ByteArray) (e : Ending) (w' : World) : Prop := e = .returned (.string s) ∧ Below w.heap.size w w'

theorem wf_u8 {n : Nat} (h : n < 256) : (Lit.int .u8 (n : Int)).wf = true := WalkArith.wf_u8 ⟨by omega, by omega⟩

/-- What the exchange of j places at either end makes of zs. -/
structure Flip (zs ys : List Nat) (j : Nat) : Prop where
  len : ys.length = zs.length
  at_ : ∀ t, t < zs.length → nth ys t = if t < j ∨ zs.length ≤ t + j then nth zs (zs.length - 1 - t) else nth zs t

theorem Flip.zero (zs : List Nat) : Flip zs zs 0 := ⟨rfl, fun t ht => by rw [if_neg (by omega)]⟩

theorem Flip.step {zs ys : List Nat} {j k : Nat} (h : Flip zs ys j) (hk : j + k + 1 = zs.length) (hjk : j < k) : Flip zs ((ys.set j (nth ys k)).set k (nth ys j)) (j + 1) := by
  refine ⟨by rw [List.length_set, List.length_set, h.len], fun t ht => ?_⟩
  have hj := h.at_ j (by omega)
  have hk2 := h.at_ k (by omega)
  rw [if_neg (by omega)] at hj hk2
  by_cases h1 : t = k
  · subst h1
    rw [nth_set_eq _ _ _ (by rw [List.length_set, h.len]; omega), hj, if_pos (by omega)]
    congr 1; omega
  · rw [nth_set_ne _ _ _ _ (by omega)]
    by_cases h2 : t = j
    · subst h2
      rw [nth_set_eq _ _ _ (by rw [h.len]; omega), hk2, if_pos (by omega)]
      congr 1; omega
    · rw [nth_set_ne _ _ _ _ (by omega), h.at_ t ht]
      by_cases h3 : t < j ∨ zs.length ≤ t + j
      · rw [if_pos h3, if_pos (by omega)]
      · rw [if_neg h3, if_neg (by omega)]

theorem nth_reverse (zs : List Nat) (t : Nat) (ht : t < zs.length) : nth zs.reverse t = nth zs (zs.length - 1 - t) := by
  rw [nth_lt (by simpa using ht), List.getElem_reverse, nth_lt (by omega)]

theorem Flip.done {zs ys : List Nat} {j : Nat} (h : Flip zs ys j) (hj : zs.length ≤ j + j + 1) : ys = zs.reverse := by
  apply list_ext_nth (by rw [h.len, List.length_reverse])
  intro t ht
  rw [h.len] at ht
  rw [nth_reverse zs t ht, h.at_ t ht]
  by_cases h3 : t < j ∨ zs.length ≤ t + j
  · rw [if_pos h3]
  · rw [if_neg h3]
    congr 1; omega

theorem Row.opn {w : World} {B : Nat} {K : IntKind} {E : TypeId} {v : Value} {xs : List Nat} (h : Row w B K E v xs) (q : Nat) (hq : q = xs.length) (h1 : 1 ≤ q) :
    ∃ g cap, v = .slice (some ⟨g, 0, none⟩) q cap ∧ B ≤ g ∧ q ≤ cap ∧ cap ≤ 9223372036854775807 := by
  subst hq
  rcases h.2 with ⟨_, h⟩ | ⟨g, cap, cur, hv, hB, _, hc, hm, _⟩
  · omega
  · exact ⟨g, cap, hv, hB, hc, hm⟩

set_option maxHeartbeats 1000000 in
theorem textR_any {w : World} {v : Value} {n : Nat} (ha : IsR w v n) (L : Nat) (hL : L ≤ 1073741824) (hn : n < P2 L) :
    Calls Try.prog 77 #[v] w (RetS w (txt n)) := by
  by_cases h0 : n = 0
  · subst h0
    obtain ⟨ao, k, cap, rfl, hk, hk2⟩ := ha.slice
    have hk0 : k = 0 := hk.2 rfl
    subst hk0
    go_enter Try.func77, Try.ntmps77
    go_wp2
    go_ret
    exact ⟨rfl, Below.refl _ _⟩
  · obtain ⟨ao, k, cap, rfl, hk, hk2⟩ := ha.slice
    have hk0 : k ≠ 0 := fun h => h0 (hk.1 h)
    have hkb : ((k : Int) == 0) = false := by
      rw [beq_eq_false_iff_ne]; omega
    have HT := Lib.hid (show txt n = bstr (rdec n).reverse by unfold txt decs; rw [if_neg h0])
    have HN := Lib.hid hn
    have HL := Lib.hid (rdec_len hn)
    clear hn hk
    go_enter Try.func77, Try.ntmps77
    go_wp2
    go_loopg [0, 3] n (fun g u o wr => ∃ zs : List Nat, IsR wr u g ∧ Hid (g ≤ n) ∧ Row wr w.heap.size .u8 5 o zs ∧ Hid (zs ++ rdec g = rdec n) ∧ Below w.heap.size w wr)
    case atStart => exact ⟨[], ha, Lib.hid (Nat.le_refl _), Row.nil _ _ _ _, Lib.hid rfl, Below.refl _ _⟩
    case round =>
      obtain ⟨zs, hu, hgn, hrow, hz, hbel⟩ := hrel
      have hsz := hbel.size
      obtain ⟨ao3, k3, cap3, rfl, hk3, hk4⟩ := hu.slice
      by_cases hk0 : k3 = 0
      · have hg0 : gk = 0 := hk3.1 hk0
        subst hg0
        subst hk0
        have hz' := hz.out
        rw [rdec_zero, List.append_nil] at hz'
        have HZ := Lib.hid hz'
        clear hz' hz hk3
        obtain ⟨q, hq⟩ : ∃ q, q = zs.length := ⟨_, rfl⟩
        have hq0 : 1 ≤ q ∧ q ≤ L := by
          have := HL.out
          rw [hq, HZ.out]
          refine ⟨?_, this⟩
          rw [rdec_pos h0]; simp
        have HQ := Lib.hid hq
        clear hq
        obtain ⟨g, cap, rfl, hgB, hcq, hcm⟩ := hrow.opn q HQ.out hq0.1
        go_wp2
        obtain ⟨wo, rfl⟩ : ∃ wo : World, wo = wr := ⟨_, rfl⟩
        go_loopw [5, 6, 7] (fun i k _ ws => ∃ (j kk : Nat) (ys : List Nat), i = .int .i64 j ∧ k = .int .i64 kk ∧ j + kk + 1 = q ∧ 2 * j ≤ q ∧ Flip zs ys j ∧ Row ws w.heap.size .u8 5 (.slice (some ⟨g, 0, none⟩) q cap) ys ∧ Below w.heap.size w ws) (fun i _ _ _ => q - (intOf i).toNat)
        case atStart => exact ⟨0, q - 1, zs, rfl, by go_num, by omega, by omega, Flip.zero zs, hrow, hbel⟩
        case round =>
          obtain ⟨j, kk, ys, rfl, rfl, hjk, h2j, hfl, hrw, hbl⟩ := hrel
          have HY : Hid (ys.length = q) := by rw [hfl.len]; exact HQ.out.symm
          by_cases hlt : j < kk
          · have c1 := hrw.cell (i := j) (by rw [HY.out]; omega)
            have c2 := hrw.cell (i := kk) (by rw [HY.out]; omega)
            have f1 := hrw.frozen j
            have r2 := hrw.seti j (nth ys kk) rfl
            have d2 := r2.cell (i := kk) (by rw [List.length_set, HY.out]; omega)
            rw [nth_set_ne _ _ _ _ (by omega)] at d2
            have f2 := r2.frozen kk
            have r3 := r2.seti kk (nth ys j) rfl
            have HF := Lib.hid (hfl.step (by rw [← HQ.out]; exact hjk) hlt)
            go_wp2
            go_roundw
            case rel => exact ⟨j + 1, kk - 1, _, by go_num, by go_num, by omega, by omega, HF.out, r3, (hbl.setCell hgB _).setCell hgB _⟩
            case measure => simp [intOf]; omega
          · have he : ys = (rdec n).reverse := by rw [← HZ.out]; exact hfl.done (by rw [← HQ.out]; omega)
            have HE := Lib.hid he
            have hcv := run_convert_bytes_arg (P := Try.prog) wr 119 5 Try.underlying119 Try.underlying5 g 0 q cap (ys.map fun (x : Nat) => (x : Int)) (by rw [List.length_map, HY.out]) (fun i hi => by
              rw [Nat.zero_add, hrw.cell (by rw [HY.out]; exact hi)]
              rw [nth_lt (by rw [HY.out]; exact hi)]
              simp [List.getD, HY.out, hi]) 9 Try.underlying9
            rw [strOfNums_bstr] at hcv
            clear he
            go_wp2
            go_ret
            exact ⟨by rw [HT.out, ← HE.out]; rfl, hbl⟩
      · have hg0 : gk ≠ 0 := fun h => hk0 (hk3.2 h)
        have hm : gk < P2 L := Nat.lt_of_le_of_lt hgn.out HN.out
        have HM := Lib.hid hm
        have hzl : zs.length < 1099511627776 := by
          have := HL.out
          rw [← hz.out, List.length_append] at this
          omega
        have HZ : Hid ((zs ++ [48 + gk % 10]) ++ rdec (gk / 10) = rdec n) := Lib.hid (by
          rw [← hz.out, rdec_pos hg0, List.append_assoc]; rfl)
        have HG : Hid (gk / 10 ≤ n) := Lib.hid (by have := hgn.out; omega)
        clear hk3 hm
        go_wp2_with fail
        refine (small_any hu 10 (by omega) (by omega) L (by omega) HM.out).mono ?_
        rintro e w1 ⟨v1, rfl, iv, b1, hfr⟩
        have hrow1 := hrow.keep b1 (Nat.le_refl _)
        have hsz1 := b1.size
        obtain ⟨ao4, k4, cap4, rfl, hk5, hk6⟩ := iv.slice
        have HK5 := Lib.hid hk5
        clear hk5
        go_wp2_with (at_builtin; go_loud (refine wpList_append_row _ rfl _ _ 119 rfl w.heap.size 5 .u8 1 Try.underlying119 (by kernel_rfl) (by omega) _ zs _ (48 + gk % 10) (by rfl) hrow1 (by rfl) (by omega) hzl (by omega) ?_; intro v' w' hrow' hbel' hfr'))
        go_roundg (gk / 10)
        case measure => omega
        case rel => exact ⟨_, iv.kept (fun k hk hc => by have := hfr k hk; have := (hrow.lt k hc).2; omega) hfr', HG, hrow', HZ, (hbel.trans (b1.mono hsz)).trans hbel'⟩

end Go.Proofs.Ytppbhjhbaknidaa

/-
  The contracts of the program's numeral and of the specification's Numeral. Condition: strings of at most 2^40 bytes.
-/
namespace Go.Proofs.Ytppbhjhbaknidaa
open Go.RowKit

/-- The bytes of a string, as numbers. -/
def byts (s : ByteArray) : List Nat := s.data.toList.map UInt8.toNat
theorem byts_len (s : ByteArray) : (byts s).length = s.size := by
  unfold byts; rw [List.length_map, Lib.size_eq]
theorem byts_nth (s : ByteArray) {k : Nat} (h : k < s.size) : nth (byts s) k = s[k].toNat := by
  rw [nth_lt (by rw [byts_len]; exact h)]
  simp [byts, ByteArray.getElem_eq_getElem_data]
theorem bstr_byts (s : ByteArray) : bstr (byts s) = s := by
  have h : (UInt8.ofNat ∘ UInt8.toNat) = id := by
    funext x; simp
  unfold bstr byts
  rw [List.map_map, h, List.map_id]
theorem byts_bstr {zs : List Nat} (h : ∀ x ∈ zs, x < 256) : byts (bstr zs) = zs := by
  simp only [bstr, byts, List.map_map]
  conv => rhs; rw [← List.map_id zs]
  apply List.map_congr_left
  intro x hx
  simp [Nat.mod_eq_of_lt (h x hx)]

theorem size_zero_iff (s : ByteArray) : s.size = 0 ↔ s.toList = [] := by
  rw [ByteArray.toList_eq, Lib.size_eq, List.length_eq_zero_iff]

def Digit (x : Nat) : Prop := 48 ≤ x ∧ x ≤ 57
/-- These bytes are a numeral. -/
def IsNum (l : List Nat) : Prop := l ≠ [] ∧ ¬ (nth l 0 = 48 ∧ 1 < l.length) ∧ ∀ i, i < l.length → Digit (nth l i)

set_option maxHeartbeats 1000000 in
theorem numeral_any (s : ByteArray) (w : World) (hs : s.size ≤ 1099511627776) (b : Bool) (hb : b = true ↔ IsNum (byts s)) :
    Calls Try.prog 98 #[.string s] w fun e w' => e = .returned (.bool b) ∧ w' = w := by
  have HB := Lib.hid hb
  clear hb
  have he := size_zero_iff s
  by_cases h0 : s.size = 0
  · have hb0 : b = false := by
      cases b with
      | false => rfl
      | true => exact absurd (List.length_eq_zero_iff.1 (by rw [byts_len, h0])) (HB.out.1 rfl).1
    subst hb0
    have he1 := he.1 h0
    clear he HB
    have he2 : s.toList.isEmpty = true := by rw [he1]; rfl
    go_enter Try.func98, Try.ntmps98
    go_wp2
    go_ret
    exact ⟨rfl, rfl⟩
  · have he1 : ¬ s.toList = [] := fun h => h0 (he.2 h)
    have he2 : s.toList.isEmpty = false := by rw [List.isEmpty_eq_false_iff]; exact he1
    clear he
    have hs0 : 0 < s.size := by omega
    have hn0 := byts_nth s hs0
    by_cases h1 : s[0].toNat = 48 ∧ 1 < s.size
    · have hb0 : b = false := by
        cases b with
        | false => rfl
        | true => exact absurd ⟨by rw [hn0]; exact h1.1, by rw [byts_len]; exact h1.2⟩ (HB.out.1 rfl).2.1
      subst hb0
      clear HB hn0
      obtain ⟨h1, h2⟩ := h1
      have h3 : ((s[0].toNat : Int) == 48) = true := by rw [beq_iff_eq]; omega
      clear h1
      go_enter Try.func98, Try.ntmps98
      go_wp2
      go_ret
      exact ⟨rfl, rfl⟩
    · have HB2 : Hid (b = true ↔ ∀ i, i < s.size → Digit (nth (byts s) i)) := Lib.hid (by
        rw [HB.out]
        refine ⟨fun h i hi => h.2.2 i (by rw [byts_len]; exact hi), fun h => ⟨fun he => ?_, ?_, fun i hi => h i (by rw [← byts_len]; exact hi)⟩⟩
        · have := byts_len s
          rw [he] at this
          simp at this
          omega
        · rw [hn0, byts_len]; exact h1)
      clear HB hn0
      have h3 : ((s[0].toNat : Int) == 48) = true ∧ s.size = 1 ∨ ((s[0].toNat : Int) == 48) = false := by
        by_cases h : s[0].toNat = 48
        · exact .inl ⟨by rw [beq_iff_eq]; omega, by omega⟩
        · exact .inr (by rw [beq_eq_false_iff_ne]; omega)
      clear h1
      rcases h3 with ⟨h3, h4⟩ | h3
      all_goals
        go_enter Try.func98, Try.ntmps98
        go_wp2
        go_loop [3, 18] (fun _ i => ∃ k : Nat, k ≤ s.size ∧ i = .int .i64 k ∧ Hid (∀ i, i < k → Digit (nth (byts s) i))) (fun _ i => s.size - (intOf i).toNat)
        case atStart => exact ⟨0, Nat.zero_le _, rfl, Lib.hid fun i hi => by omega⟩
        case round =>
          obtain ⟨k, hk, rfl, hg⟩ := hrel
          by_cases hlt : k < s.size
          · have hn := byts_nth s hlt
            by_cases hd : Digit (nth (byts s) k)
            · have HG : Hid (∀ i, i < k + 1 → Digit (nth (byts s) i)) := Lib.hid fun i hi => by
                by_cases h : i = k
                · rw [h]; exact hd
                · exact hg.out i (by omega)
              rw [hn] at hd
              obtain ⟨d1, d2⟩ := hd
              clear hn
              go_wp2
              go_round
              case rel => exact ⟨k + 1, by omega, by go_num, HG⟩
              case measure => simp [intOf]; omega
            · have hb0 : b = false := by
                cases b with
                | false => rfl
                | true => exact absurd (HB2.out.1 rfl k hlt) hd
              subst hb0
              rw [hn] at hd
              have hd' : s[k].toNat < 48 ∨ (48 ≤ s[k].toNat ∧ 57 < s[k].toNat) := by
                unfold Digit at hd; omega
              clear hn hd
              rcases hd' with hd | ⟨hd, hd2⟩
              all_goals
                go_wp2
                go_ret
                exact ⟨rfl, rfl⟩
          · have hb1 : b = true := HB2.out.2 fun i hi => hg.out i (by omega)
            subst hb1
            go_wp2
            go_ret
            exact ⟨rfl, rfl⟩

set_option maxHeartbeats 1000000 in
theorem numeralR_any (s : ByteArray) (w : World) (hs : s.size ≤ 1099511627776) (b : Bool) (hb : b = true ↔ IsNum (byts s)) :
    Calls Try.prog 103 #[.string s] w fun e w' => e = .returned (.bool b) ∧ w' = w := by
  have HB := Lib.hid hb
  clear hb
  have he := size_zero_iff s
  by_cases h0 : s.size = 0
  · have hb0 : b = false := by
      cases b with
      | false => rfl
      | true => exact absurd (List.length_eq_zero_iff.1 (by rw [byts_len, h0])) (HB.out.1 rfl).1
    subst hb0
    have he1 := he.1 h0
    clear he HB
    have he2 : s.toList.isEmpty = true := by rw [he1]; rfl
    go_enter Try.func103, Try.ntmps103
    go_wp2
    go_ret
    exact ⟨rfl, rfl⟩
  · have he1 : ¬ s.toList = [] := fun h => h0 (he.2 h)
    have he2 : s.toList.isEmpty = false := by rw [List.isEmpty_eq_false_iff]; exact he1
    clear he
    have hs0 : 0 < s.size := by omega
    have hn0 := byts_nth s hs0
    by_cases h1 : s[0].toNat = 48 ∧ 1 < s.size
    · have hb0 : b = false := by
        cases b with
        | false => rfl
        | true => exact absurd ⟨by rw [hn0]; exact h1.1, by rw [byts_len]; exact h1.2⟩ (HB.out.1 rfl).2.1
      subst hb0
      clear HB hn0
      obtain ⟨h1, h2⟩ := h1
      have h3 : ((s[0].toNat : Int) == 48) = true := by rw [beq_iff_eq]; omega
      clear h1
      go_enter Try.func103, Try.ntmps103
      go_wp2
      go_ret
      exact ⟨rfl, rfl⟩
    · have HB2 : Hid (b = true ↔ ∀ i, i < s.size → Digit (nth (byts s) i)) := Lib.hid (by
        rw [HB.out]
        refine ⟨fun h i hi => h.2.2 i (by rw [byts_len]; exact hi), fun h => ⟨fun he => ?_, ?_, fun i hi => h i (by rw [← byts_len]; exact hi)⟩⟩
        · have := byts_len s
          rw [he] at this
          simp at this
          omega
        · rw [hn0, byts_len]; exact h1)
      clear HB hn0
      have h3 : ((s[0].toNat : Int) == 48) = true ∧ s.size = 1 ∨ ((s[0].toNat : Int) == 48) = false ∧ s.size ≤ 1 ∨ ((s[0].toNat : Int) == 48) = false ∧ 1 < s.size := by
        by_cases h : s[0].toNat = 48
        · exact .inl ⟨by rw [beq_iff_eq]; omega, by omega⟩
        · by_cases hq : s.size ≤ 1
          · exact .inr (.inl ⟨by rw [beq_eq_false_iff_ne]; omega, hq⟩)
          · exact .inr (.inr ⟨by rw [beq_eq_false_iff_ne]; omega, by omega⟩)
      clear h1
      rcases h3 with ⟨h3, h4⟩ | ⟨h3, h4⟩ | ⟨h3, h4⟩
      all_goals
        go_enter Try.func103, Try.ntmps103
        go_wp2
        go_loop [3] (fun i => ∃ k : Nat, k ≤ s.size ∧ i = .int .i64 k ∧ Hid (∀ i, i < k → Digit (nth (byts s) i))) (fun i => s.size - (intOf i).toNat)
        case atStart => exact ⟨0, Nat.zero_le _, rfl, Lib.hid fun i hi => by omega⟩
        case round =>
          obtain ⟨k, hk, rfl, hg⟩ := hrel
          by_cases hlt : k < s.size
          · have hn := byts_nth s hlt
            by_cases hd : Digit (nth (byts s) k)
            · have HG : Hid (∀ i, i < k + 1 → Digit (nth (byts s) i)) := Lib.hid fun i hi => by
                by_cases h : i = k
                · rw [h]; exact hd
                · exact hg.out i (by omega)
              rw [hn] at hd
              obtain ⟨d1, d2⟩ := hd
              clear hn
              go_wp2
              go_round
              case rel => exact ⟨k + 1, by omega, by go_num, HG⟩
              case measure => simp [intOf]; omega
            · have hb0 : b = false := by
                cases b with
                | false => rfl
                | true => exact absurd (HB2.out.1 rfl k hlt) hd
              subst hb0
              rw [hn] at hd
              have hd' : s[k].toNat < 48 ∨ (48 ≤ s[k].toNat ∧ 57 < s[k].toNat) := by
                unfold Digit at hd; omega
              clear hn hd
              rcases hd' with hd | ⟨hd, hd2⟩
              all_goals
                go_wp2
                go_ret
                exact ⟨rfl, rfl⟩
          · have hb1 : b = true := HB2.out.2 fun i hi => hg.out i (by omega)
            subst hb1
            go_wp2
            go_ret
            exact ⟨rfl, rfl⟩

end Go.Proofs.Ytppbhjhbaknidaa

/-
  The contract of the program's Parse. Condition: strings of at most 2^40 bytes.
-/
namespace Go.Proofs.Ytppbhjhbaknidaa
open Go.RowKit

/-- The number that these digits write. -/
def numOf (l : List Nat) : Nat := l.foldl (fun a c => 10 * a + (c - 48)) 0
theorem numOf_snoc (l : List Nat) (c : Nat) : numOf (l ++ [c]) = 10 * numOf l + (c - 48) := by simp [numOf]
theorem take_nth (l : List Nat) (k : Nat) (h : k < l.length) : l.take (k + 1) = l.take k ++ [nth l k] := by
  rw [List.take_succ_eq_append_getElem h, nth_lt h]
theorem numOf_take (l : List Nat) (k : Nat) (h : k < l.length) : numOf (l.take (k + 1)) = 10 * numOf (l.take k) + (nth l k - 48) := by
  rw [take_nth l k h, numOf_snoc]
theorem numOf_lt {l : List Nat} (hd : ∀ i, i < l.length → Digit (nth l i)) : ∀ k, k ≤ l.length → numOf (l.take k) < 10 ^ k
  | 0, _ => by simp [numOf]
  | k + 1, h => by
    have h1 := numOf_lt hd k (by omega)
    have h2 := hd k (by omega)
    unfold Digit at h2
    rw [numOf_take l k (by omega), Nat.pow_succ]
    omega
theorem pow10_P2 (k : Nat) : 10 ^ k ≤ P2 (4 * k) := by
  unfold P2
  rw [Nat.pow_mul]
  exact Nat.pow_le_pow_left (by omega) k

instance (x : Nat) : Decidable (Digit x) := by unfold Digit; infer_instance
instance (l : List Nat) : Decidable (IsNum l) := by unfold IsNum; infer_instance
/-- The error code of Parse. -/
def parseE (l : List Nat) : Nat := if IsNum l then (if l.length ≤ 4933 then fitE (numOf l) else 3) else 4

theorem pow10_le {k : Nat} (h : k ≤ 9) : 10 ^ k ≤ 1000000000 := Nat.pow_le_pow_right (n := 10) (by omega) h

set_option maxHeartbeats 1000000 in
theorem parse_any (s : ByteArray) (w : World) (hs : s.size ≤ 1099511627776) :
    Calls Try.prog 32 #[.string s] w (RetE w (numOf (byts s)) (parseE (byts s))) := by
  have hblt : w.heap.size < (w.alloc (.cells #[.slice none 0 0] 25)).heap.size := by simp
  have hB0 : Below w.heap.size w (w.alloc (.cells #[.slice none 0 0] 25)) := (Below.refl _ _).alloc (Nat.le_refl _) _
  have hr0 := Blk.new w #[.slice none 0 0] 25
  have c0 := hr0.cell 0
  have f0 := hr0.frozen 0
  rw [show (#[Value.slice none 0 0] : Array Value)[0]? = some (.slice none 0 0) from rfl] at c0
  by_cases hn : IsNum (byts s)
  · by_cases hl : s.size ≤ 4933
    · have hE : parseE (byts s) = fitE (numOf (byts s)) := by unfold parseE; rw [if_pos hn, if_pos (by rw [byts_len]; exact hl)]
      rw [hE]
      clear hE
      obtain ⟨l, hl0⟩ : ∃ l, l = byts s := ⟨_, rfl⟩
      have hll : l.length = s.size := by rw [hl0, byts_len]
      have HBY : Hid (∀ k (h : k < s.size), nth l k = s[k].toNat) := Lib.hid fun k h => by rw [hl0]; exact byts_nth s h
      have HD : Hid (∀ i, i < s.size → Digit (nth l i)) := Lib.hid fun i hi => by rw [hl0]; exact hn.2.2 i (by rw [byts_len]; exact hi)
      have HX := Lib.hid (numOf_lt (l := l) (fun i hi => HD.out i (by rw [← hll]; exact hi)))
      have HN := Lib.hid (fun w0 => numeral_any s w0 hs true ⟨fun _ => hn, fun _ => rfl⟩)
      rw [← hl0]
      have HLL := Lib.hid hll
      clear hn hl0 hll
      go_enter Try.func32, Try.ntmps32
      go_wp2_with fail
      refine (HN.out _).mono ?_
      rintro e w1 ⟨rfl, rfl⟩
      go_wp2
      obtain ⟨wo, hwo⟩ : ∃ wo : World, wo = w.alloc (.cells #[.slice none 0 0] 25) := ⟨_, rfl⟩
      rw [← hwo] at hblt hB0 hr0 c0 f0 ⊢
      clear hwo
      go_loopw [4, 5, 6, 7, 8, 28, 29] (fun v i _ _ _ _ _ wr => ∃ k : Nat, k ≤ s.size ∧ i = .int .i64 k ∧ IsN wr v (numOf (l.take k)) ∧ Below wo.heap.size wo wr) (fun _ i _ _ _ _ _ _ => s.size - (intOf i).toNat)
      case atStart => exact ⟨0, Nat.zero_le _, rfl, IsN.zero _, Below.refl _ _⟩
      case round =>
        obtain ⟨k, hk, rfl, iv, hb1⟩ := hrel
        have hsz := hb1.size
        by_cases hlt : k < s.size
        · have hq0 : ∃ q : Nat, 1 ≤ q ∧ q ≤ 9 ∧ k + q ≤ s.size ∧ ((((s.size : Int) - k) % 9 == 0) = true ∧ q = 9 ∨ (((s.size : Int) - k) % 9 == 0) = false ∧ ((s.size : Int) - k) % 9 = q) := by
            by_cases h : (s.size - k) % 9 = 0
            · exact ⟨9, by omega, by omega, by omega, .inl ⟨by rw [beq_iff_eq]; omega, rfl⟩⟩
            · exact ⟨(s.size - k) % 9, by omega, by omega, by omega, .inr ⟨by rw [beq_eq_false_iff_ne]; omega, by omega⟩⟩
          obtain ⟨q, q1, q9, qk, hq⟩ := hq0
          have HX2 := Lib.hid (HX.out (k + q) (by rw [HLL.out]; exact qk))
          have HX1 := Lib.hid (HX.out k (by rw [HLL.out]; omega))
          rcases hq with ⟨hq, hq2⟩ | ⟨hq, hq2⟩
          rotate_left
          have HQ3 := Lib.hid hq2
          clear hq2
          all_goals go_wp2
          rw [HQ3.out]
          all_goals
            go_loop [5, 7, 8, 29] (fun i c p t => ∃ tt cc pp : Nat, tt ≤ q ∧ i = .int .i64 ((k + tt : Nat) : Int) ∧ c = .int .u64 cc ∧ p = .int .u64 pp ∧ t = .int .i64 tt ∧ Hid (pp = 10 ^ tt) ∧ cc < pp ∧ pp ≤ 1000000000 ∧ Hid (numOf (l.take (k + tt)) = numOf (l.take k) * pp + cc)) (fun _ _ _ t => q - (intOf t).toNat)
            case atStart => exact ⟨0, 0, 1, Nat.zero_le _, rfl, rfl, rfl, rfl, Lib.hid rfl, by omega, by omega, Lib.hid (by rw [Nat.add_zero, Nat.mul_one]; rfl)⟩
            case round =>
              obtain ⟨tt, cc, pp, htt, rfl, rfl, rfl, rfl, hp, hcp, hp9, hv⟩ := hrel
              by_cases hlt2 : tt < q
              · have hbn := HBY.out (k + tt) (by omega)
                have hdg := HD.out (k + tt) (by omega)
                rw [hbn] at hdg
                obtain ⟨d1, d2⟩ := hdg
                have HP : Hid (pp * 10 = 10 ^ (tt + 1)) := Lib.hid (by rw [Nat.pow_succ, hp.out])
                have hp9' : pp * 10 ≤ 1000000000 := by rw [HP.out]; exact pow10_le (by omega)
                have HV : Hid (numOf (l.take (k + (tt + 1))) = numOf (l.take k) * (pp * 10) + (10 * cc + (s[k + tt].toNat - 48))) := Lib.hid (by
                  rw [← Nat.add_assoc, numOf_take l _ (by rw [HLL.out]; omega), hv.out, hbn, ← Nat.mul_assoc]; omega)
                clear hbn
                go_wp2
                go_round
                case rel => exact ⟨tt + 1, 10 * cc + (s[k + tt].toNat - 48), pp * 10, by omega, by go_num, by refine congrArg _ ?_; omega, by go_num, by go_num, HP, by omega, hp9', HV⟩
                case measure => simp [intOf]; omega
              · obtain rfl : tt = q := by omega
                have HA : Hid (numOf (l.take k) < P2 20000) := Lib.hid (Nat.lt_of_lt_of_le HX1.out (Nat.le_trans (pow10_P2 _) (P2_mono (by omega))))
                have HA2 : Hid (numOf (l.take k) * pp + cc < P2 20000) := Lib.hid (by
                  rw [← hv.out]; exact Nat.lt_of_lt_of_le HX2.out (Nat.le_trans (pow10_P2 _) (P2_mono (by omega))))
                have h33 : P2 30 = 1073741824 := by simp [P2]
                have HA3 : Hid (pp < P2 20000 ∧ cc < P2 20000) := Lib.hid (by
                  have := P2_mono (show 30 ≤ 20000 by omega)
                  omega)
                clear h33
                go_wp2_with fail
                refine (words_any pp _ (by omega) (by omega)).mono ?_
                rintro e w2 ⟨v2, rfl, i2, b2⟩
                rw [Int.toNat_natCast] at i2
                go_wp2_with fail
                refine (mul_any (iv.below b2) i2 20000 (by omega) HA.out HA3.out.1).mono ?_
                rintro e w3 ⟨v3, rfl, i3, b3⟩
                go_wp2_with fail
                refine (words_any cc _ (by omega) (by omega)).mono ?_
                rintro e w4 ⟨v4, rfl, i4, b4⟩
                rw [Int.toNat_natCast] at i4
                go_wp2_with fail
                refine (add_any (i3.below b4) i4 20000 (by omega) (Nat.lt_of_le_of_lt (Nat.le_add_right _ _) HA2.out) HA3.out.2).mono ?_
                rintro e w5 ⟨v5, rfl, i5, b5⟩
                have hb5 := nextB (nextB (nextB b2 b3) b4) b5
                rw [← hv.out] at i5
                go_wp2
                go_roundw
                case rel => exact ⟨k + tt, by omega, by first | rfl | (refine congrArg _ ?_; omega), i5, hb1.trans (hb5.mono hsz)⟩
                case measure => simp [intOf]; omega
        · have hk2 : k = s.size := by omega
          have HT : Hid (numOf (l.take k) = numOf l) := Lib.hid (by rw [List.take_of_length_le (by rw [HLL.out]; omega)])
          have HA : Hid (numOf (l.take k) < P2 20000) := Lib.hid (Nat.lt_of_lt_of_le (HX.out k (by rw [HLL.out]; omega)) (Nat.le_trans (pow10_P2 _) (P2_mono (by omega))))
          clear hk2
          go_wp2_with fail
          refine (fits_any iv 20000 (by omega) HA.out).mono ?_
          rintro e w2 ⟨v2, rfl, ⟨s2, rfl, is2⟩, b2⟩
          obtain ⟨ao3, k3, cap3, rfl⟩ := is2.slice
          rw [HT.out] at is2
          have hB2 := nextB hb1 b2
          have rb := hr0.below hB2
          have rc := rb.cell 0
          have rf := rb.frozen 0
          rw [show (#[Value.slice none 0 0] : Array Value)[0]? = some (.slice none 0 0) from rfl] at rc
          have hB := hB0.trans (hB2.mono (Nat.le_of_lt hblt))
          have HT2 := HT.out
          rw [HT2]
          clear HT2
          go_wp2
          refine bodyPost_ret (v := .tuple #[.agg #[.slice ao3 k3 cap3], .int .i64 (fitE (numOf l) : Nat)]) (by simp [results, Try.results32, go_sem, rc]) rfl ⟨_, rfl, ⟨_, rfl, is2.setBlk rb NoInt.one _ _⟩, hB.setCell (by simp) _⟩
    · have hE : parseE (byts s) = 3 := by unfold parseE; rw [if_pos hn, if_neg (by rw [byts_len]; exact hl)]
      rw [hE]
      clear hE
      have HN := Lib.hid (fun w0 => numeral_any s w0 hs true ⟨fun _ => hn, fun _ => rfl⟩)
      clear hn
      go_enter Try.func32, Try.ntmps32
      go_wp2_with fail
      refine (HN.out _).mono ?_
      rintro e w1 ⟨rfl, rfl⟩
      go_wp2
      refine bodyPost_ret (v := .tuple #[.agg #[.slice none 0 0], .int .i64 3]) (by simp [results, Try.results32, go_sem, c0]) rfl ⟨_, rfl, IsNat.zero _, hB0⟩
  · have hE : parseE (byts s) = 4 := by unfold parseE; rw [if_neg hn]
    rw [hE]
    clear hE
    have HN := Lib.hid (fun w0 => numeral_any s w0 hs false ⟨fun h => (by cases h), fun h => absurd h hn⟩)
    clear hn
    go_enter Try.func32, Try.ntmps32
    go_wp2_with fail
    refine (HN.out _).mono ?_
    rintro e w1 ⟨rfl, rfl⟩
    go_wp2
    refine bodyPost_ret (v := .tuple #[.agg #[.slice none 0 0], .int .i64 4]) (by simp [results, Try.results32, go_sem, c0]) rfl ⟨_, rfl, IsNat.zero _, hB0⟩

end Go.Proofs.Ytppbhjhbaknidaa

/-
  The contract of the program's String: the numeral of a number. Condition: numbers of at most 2^30 bits.
-/
namespace Go.Proofs.Ytppbhjhbaknidaa
open Go.RowKit

theorem IsN.kept {w w' : World} {v r : Value} {m : Nat} (h : IsN w v m) (hk : ∀ k, v.ownBlock = some k → r.ownBlock ≠ some k)
    (he : ∀ k, k < w.heap.size → r.ownBlock ≠ some k → w'.heap[k]? = w.heap[k]?) : IsN w' v m := by
  obtain ⟨xs, ⟨ao, n, cap, b, off, rfl, hs⟩, hc, hv⟩ := h
  refine ⟨xs, ⟨ao, n, cap, b, off, rfl, { hs with cells := fun i hi => ?_ }⟩, hc, hv⟩
  obtain rfl := hs.addr.resolve_right (by omega)
  rw [← hs.cells i hi]
  simp only [World.cell?]
  rw [he b (hs.lt (by omega)) (hk b rfl)]

theorem IsN.len {w : World} {v : Value} {n : Nat} (h : IsN w v n) : ∃ ao k cap, v = .slice ao k cap ∧ (k = 0 ↔ n = 0) ∧ k ≤ 1099511627776 := by
  obtain ⟨xs, ⟨ao, k, cap, b, off, hv, hs⟩, hc, hn⟩ := h
  refine ⟨ao, k, cap, hv, ⟨fun h0 => ?_, fun h0 => ?_⟩, hs.max.1⟩
  · have : xs = [] := List.length_eq_zero_iff.1 (by rw [hs.len, h0])
    rw [← hn, this]; rfl
  · have := hc.zero (by omega) (by rw [hn, h0])
    rw [← hs.len, this]; rfl

/-- The bytes written so far: none for 0. -/
def dz (m : Nat) : List Nat := (rdec m).reverse
theorem dz_zero : dz 0 = [] := by unfold dz; rw [rdec_zero]; rfl
theorem dz_step {m d : Nat} (hd : d < 10) (h : 0 < m ∨ 0 < d) : dz (10 * m + d) = dz m ++ [48 + d] := by
  unfold dz
  rw [rdec_pos (by omega), List.reverse_cons, show (10 * m + d) / 10 = m by omega, show (10 * m + d) % 10 = d by omega]
theorem dz_len {m : Nat} : 0 < (dz m).length ↔ 0 < m := by
  by_cases h : m = 0
  · subst h; rw [dz_zero]; simp
  · unfold dz; rw [rdec_pos h]; simp; omega
theorem byte_cells {zs : List Nat} (h : ∀ x ∈ zs, x < 256) : intsOf .u8 zs = Lib.byteCells (zs.map UInt8.ofNat) := by
  simp only [intsOf, Lib.byteCells, List.map_map]
  apply List.map_congr_left
  intro x hx
  simp [Nat.mod_eq_of_lt (h x hx)]

/-- One chunk: the scale S, the number m written so far. -/
def ChunkAt (N c S m : Nat) : Prop := (S = 0 ∧ m = N) ∨ ∃ p, p ≤ 8 ∧ S = 10 ^ p ∧ 10 * S * m + c % (10 * S) = N
theorem ChunkAt.start {T c : Nat} (hc : c < 1000000000) : ChunkAt (1000000000 * T + c) c 100000000 T :=
  .inr ⟨8, by omega, rfl, by rw [Nat.mod_eq_of_lt (by omega)]⟩
theorem ChunkAt.step {N c S m : Nat} (h : ChunkAt N c S m) (hS : 0 < S) : ChunkAt N c (S / 10) (10 * m + c / S % 10) := by
  rcases h with ⟨h, _⟩ | ⟨p, hp, rfl, h⟩
  · omega
  · match p with
    | 0 => exact .inl ⟨rfl, by simp at h ⊢; omega⟩
    | p + 1 =>
      have e : 10 ^ (p + 1) / 10 = 10 ^ p := by rw [Nat.pow_succ]; omega
      rw [e]
      refine .inr ⟨p, by omega, rfl, ?_⟩
      rw [← h, show 10 * 10 ^ p = 10 ^ (p + 1) by rw [Nat.pow_succ]; omega]
      generalize 10 ^ (p + 1) = S at *
      have := Nat.mod_mul (x := c) (a := S) (b := 10)
      rw [Nat.mul_comm 10 S, this, Nat.mul_add, ← Nat.mul_assoc, Nat.mul_assoc S 10 m]
      omega
theorem ChunkAt.le {N c S m : Nat} (h : ChunkAt N c S m) : S ≤ 100000000 := by
  rcases h with ⟨h, _⟩ | ⟨p, hp, rfl, h⟩
  · omega
  · exact Nat.pow_le_pow_right (n := 10) (by omega) hp


structure Chunks (n L g : Nat) (cs : List Nat) : Prop where
  dg : Dg 1000000000 cs
  eq : val 1000000000 cs + 1000000000 ^ cs.length * g = n
  le : cs.length ≤ L

theorem Chunks.zero (n L : Nat) : Chunks n L n [] := ⟨Dg.nil _, by simp [val], Nat.zero_le _⟩
theorem Chunks.step {n L g : Nat} {cs : List Nat} (h : Chunks n L g cs) (hg : g ≠ 0) (hn : n < P2 L) : Chunks n L (g / 1000000000) (cs ++ [g % 1000000000]) ∧ cs.length < L := by
  have e := Nat.mod_add_div g 1000000000
  have hlt : cs.length < L := by
    refine P2_lt (Nat.lt_of_le_of_lt ?_ hn)
    have h1 : P2 cs.length ≤ 1000000000 ^ cs.length := Nat.pow_le_pow_left (by omega) _
    have h2 := h.eq
    have h3 : 1000000000 ^ cs.length * 1 ≤ 1000000000 ^ cs.length * g := Nat.mul_le_mul_left _ (by omega)
    omega
  refine ⟨⟨h.dg.snoc (Nat.mod_lt _ (by omega)), ?_, by rw [List.length_append]; simp; omega⟩, hlt⟩
  rw [val_snoc, List.length_append, List.length_singleton, Nat.pow_succ, Nat.add_assoc, Nat.mul_assoc, ← Nat.mul_add, e]
  exact h.eq
theorem Chunks.done {n L : Nat} {cs : List Nat} (h : Chunks n L 0 cs) : val 1000000000 cs = n := by
  have := h.eq
  rwa [Nat.mul_zero, Nat.add_zero] at this

theorem dz_byte (m : Nat) : ∀ x ∈ dz m, x < 256 := fun x hx => by
  have := rdec_byte m x (List.mem_reverse.1 hx)
  omega
theorem dz_len_le {m L : Nat} (h : m < P2 L) : (dz m).length ≤ L := by
  unfold dz; rw [List.length_reverse]; exact rdec_len h
theorem intsOf_snoc (K : IntKind) (zs : List Nat) (d : Nat) : intsOf K zs ++ [.int K (d : Int)] = intsOf K (zs ++ [d]) := by simp [intsOf]
theorem intsOf_len (K : IntKind) (zs : List Nat) : (intsOf K zs).length = zs.length := by simp [intsOf]
theorem ChunkAt.m_le {N c S m : Nat} (h : ChunkAt N c S m) : m ≤ N := by
  rcases h with ⟨_, h⟩ | ⟨p, hp, rfl, h⟩
  · omega
  · have h1 : 1 ≤ 10 * 10 ^ p := by have := Nat.pow_pos (n := p) (show 0 < 10 by omega); omega
    have := Nat.mul_le_mul_right m h1
    omega
theorem ChunkAt.end_ {N c m : Nat} (h : ChunkAt N c 0 m) : m = N := by
  rcases h with ⟨_, h⟩ | ⟨p, hp, h, _⟩
  · exact h
  · have := Nat.pow_pos (n := p) (show 0 < 10 by omega); omega
theorem dz_stay {m d : Nat} (h : ¬ (0 < m ∨ 0 < d)) : 10 * m + d = m := by omega
theorem val_drop_le (b : Nat) (hb : 0 < b) (cs : List Nat) (j : Nat) : val b (cs.drop j) ≤ val b cs := by
  by_cases h : j ≤ cs.length
  · have e := val_take_drop b cs j h
    have := Nat.mul_le_mul_right (val b (cs.drop j)) (Nat.pow_pos (n := j) hb)
    rw [Nat.succ_eq_add_one, Nat.zero_add, Nat.one_mul] at this
    omega
  · rw [List.drop_of_length_le (by omega)]; exact Nat.zero_le _

set_option maxHeartbeats 2000000 in
set_option maxRecDepth 100000 in
theorem String_any {w : World} {v : Value} {n : Nat} (ha : IsNat w v n) (L : Nat) (hL : L ≤ 1073741824) (hn : n < P2 L) :
    Calls Try.prog 60 #[v] w (RetS w (txt n)) := by
  obtain ⟨s, rfl, ha⟩ := ha
  obtain ⟨ao, k, cap, rfl, hk, hk2⟩ := ha.len
  have hB0 : Below w.heap.size w (w.alloc (.cells #[.slice ao k cap] 25)) := (Below.refl _ _).alloc (Nat.le_refl _) _
  by_cases h0 : k = 0
  · have hn0 := hk.1 h0
    subst hn0
    subst h0
    clear hk hn
    go_enter Try.func60, Try.ntmps60
    go_wp2
    go_ret
    exact ⟨rfl, hB0⟩
  · have hkb : ((k : Int) == 0) = false := by rw [beq_eq_false_iff_ne]; omega
    have hn0 : n ≠ 0 := fun h => h0 (hk.2 h)
    have HT := Lib.hid (show txt n = bstr (dz n) by unfold txt decs dz; rw [if_neg hn0])
    have HN := Lib.hid hn
    have ha1 := ha.below hB0
    clear hn hk ha
    go_enter Try.func60, Try.ntmps60
    go_wp2
    obtain ⟨wo, hwo⟩ : ∃ wo : World, wo = w.alloc (.cells #[.slice ao k cap] 25) := ⟨_, rfl⟩
    rw [← hwo] at hB0 ha1 ⊢
    clear hwo
    go_loopg [3, 4] n (fun g o u wr => ∃ cs : List Nat, IsN wr u g ∧ Hid (g ≤ n) ∧ Row wr wo.heap.size .u32 115 o cs ∧ Hid (Chunks n L g cs) ∧ Below wo.heap.size wo wr)
    case atStart => exact ⟨[], ha1, Lib.hid (Nat.le_refl _), Row.nil _ _ _ _, Lib.hid (Chunks.zero _ _), Below.refl _ _⟩
    case round =>
      obtain ⟨cs, hu, hgn, hrow, hch, hbel⟩ := hrel
      have hsz := hbel.size
      obtain ⟨ao3, k3, cap3, rfl, hk3, hk4⟩ := hu.len
      by_cases hk0 : k3 = 0
      · have hg0 : gk = 0 := hk3.1 hk0
        subst hg0
        subst hk0
        have HV := Lib.hid hch.out.done
        have HDG := Lib.hid hch.out.dg
        obtain ⟨q, hq⟩ : ∃ q, q = cs.length := ⟨_, rfl⟩
        have hq0 : 1 ≤ q ∧ q ≤ L := by
          have := hch.out.le
          rw [hq]
          refine ⟨?_, this⟩
          refine List.length_pos_iff.2 fun h => ?_
          rw [h] at HV
          exact hn0 HV.out.symm
        have HQ := Lib.hid hq
        clear hq hk3 hch hgn
        obtain ⟨hq1, hq2⟩ := hq0
        obtain ⟨g, cap, rfl, hgB, hcq, hcm⟩ := hrow.opn q HQ.out hq1
        have hfb := Lib.fresh_isBuilder 121 5 wr
        go_wp2
        obtain ⟨wb, hwb⟩ : ∃ wb : World, wb = wr := ⟨_, rfl⟩
        rw [← hwb] at hrow hbel hsz hfb ⊢
        clear hwb
        go_loopw [8, 9, 10] (fun i _ _ ws => ∃ (j m : Nat), i = .int .i64 ((j : Int) - 1) ∧ j ≤ q ∧ Hid (m = val 1000000000 (cs.drop j)) ∧ Lib.IsBuilder 121 5 wb.heap.size wb.heap.size (intsOf .u8 (dz m)) ws ∧ Below wb.heap.size wb ws) (fun i _ _ _ => (intOf i + 1).toNat)
        case atStart => exact ⟨q, 0, rfl, Nat.le_refl _, Lib.hid (by rw [List.drop_of_length_le (by rw [HQ.out]; exact Nat.le_refl _)]; rfl), by rw [dz_zero]; exact hfb, (Below.refl _ _).alloc (Nat.le_refl _) _⟩
        case round =>
          obtain ⟨j, m0, rfl, hj, hm, hbd, hbl⟩ := hrel
          by_cases hj0 : j = 0
          · subst hj0
            have HM : Hid (m0 = n) := Lib.hid (by rw [hm.out, List.drop_zero, HV.out])
            have hd0 : decide ((0 : Int) ≤ ((0 : Nat) : Int) - 1) = false := rfl
            have HB : Hid (Lib.IsBuilder 121 5 wb.heap.size wb.heap.size (Lib.byteCells ((dz n).map UInt8.ofNat)) wr) := Lib.hid (by
              rw [← byte_cells (dz_byte n), ← HM.out]; exact hbd)
            go_wp2_with fail
            refine (Try.Builder_String_any wb.heap.size wb.heap.size _ _ HB.out hbl.size).mono ?_
            rintro e w2 ⟨rfl, b2⟩
            go_wp2
            go_ret
            exact ⟨by rw [HT.out]; rfl, hB0.trans ((hbel.trans ((hbl.trans b2).mono hsz)).mono hB0.size)⟩
          · obtain ⟨t, rfl⟩ : ∃ t, j = t + 1 := ⟨j - 1, by omega⟩
            rw [show ((t + 1 : Nat) : Int) - 1 = (t : Int) by omega]
            obtain ⟨c, hc⟩ : ∃ c, c = nth cs t := ⟨_, rfl⟩
            have hc9 : c < 1000000000 := by rw [hc]; exact HDG.out.nth (by omega) t
            have HC : Hid (1000000000 * m0 + c = val 1000000000 (cs.drop t)) := Lib.hid (by
              rw [val_drop_cons _ (by rw [← HQ.out]; omega), hm.out, hc]; omega)
            have HN2 : Hid (1000000000 * m0 + c ≤ n) := Lib.hid (by
              rw [HC.out, ← HV.out]; exact val_drop_le _ (by omega) _ _)
            have HCC := Lib.hid hc
            clear hc hm
            obtain ⟨wt, hwt⟩ : ∃ wt : World, wt = wr := ⟨_, rfl⟩
            rw [← hwt] at hbd hbl ⊢
            clear hwt
            go_wp2
            go_loopw [9, 10] (fun s _ ws => ∃ (S m : Nat), s = .int .u32 (S : Int) ∧ Hid (ChunkAt (1000000000 * m0 + c) c S m) ∧ S ≤ 100000000 ∧ Lib.IsBuilder 121 5 wb.heap.size wb.heap.size (intsOf .u8 (dz m)) ws ∧ Below wb.heap.size wb ws) (fun s _ _ => (intOf s).toNat)
            case atStart => exact ⟨100000000, m0, rfl, Lib.hid (ChunkAt.start hc9), by omega, hbd, hbl⟩
            case round =>
              obtain ⟨S, m, rfl, hca, hS, hbd1, hbl1⟩ := hrel
              clear hbd hbl
              by_cases hS0 : 0 < S
              · have hrw := hrow.keep hbl1 (Nat.le_refl _)
                have hcl := hrw.cell (i := t) (by rw [← HQ.out]; omega)
                rw [← HCC.out] at hcl
                have HCA := Lib.hid (hca.out.step hS0)
                have HML : Hid ((intsOf .u8 (dz m)).length + 1 ≤ 140737488355328) := Lib.hid (by
                  rw [intsOf_len]
                  have := dz_len_le (Nat.lt_of_le_of_lt (Nat.le_trans hca.out.m_le HN2.out) HN.out)
                  omega)
                have hd10 : c / S % 10 < 10 := Nat.mod_lt _ (by omega)
                have hsz1 := hbl1.size
                have hlen := Try.Builder_Len wb.heap.size wb.heap.size _ _ hbd1
                rw [intsOf_len] at hlen
                have HLn := dz_len (m := m)
                have HDS := Lib.hid (fun h => dz_step (m := m) (d := c / S % 10) hd10 h)
                have HDT := Lib.hid (fun h => dz_stay (m := m) (d := c / S % 10) h)
                have hdI : (c : Int) / (S : Int) % 4294967296 % 10 = ((c / S % 10 : Nat) : Int) := by
                  have h1 : c / S ≤ c := Nat.div_le_self _ _
                  rw [← Int.natCast_ediv]
                  generalize c / S = y at h1 ⊢
                  omega
                generalize hx : c / S % 10 = d at *
                have HX := Lib.hid hx
                clear hx
                generalize (dz m).length = l at hlen HLn
                have hcase : (0 < m ∧ 0 < l) ∨ (m = 0 ∧ l = 0 ∧ 0 < d) ∨ (m = 0 ∧ l = 0 ∧ d = 0) := by omega
                clear HLn
                have HW := Lib.hid (fun w0 h => writeByte_any wb.heap.size wb.heap.size _ (48 + (d : Int)) w0 h HML.out)
                rcases hcase with ⟨h1, h2⟩ | ⟨h1, h2, h3⟩ | ⟨h1, h2, h3⟩
                · go_wp2_with fail
                  refine hlen.mono ?_
                  rintro e w2 ⟨rfl, rfl⟩
                  go_wp2_with fail
                  refine (HW.out _ hbd1 hsz1).mono ?_
                  rintro e w3 ⟨rfl, hb3, b3⟩
                  go_wp2
                  go_roundw
                  case rel => exact ⟨S / 10, _, rfl, HCA, by omega, by
                    rw [HDS.out (.inl h1), ← intsOf_snoc]; exact .inr (by simpa using hb3), hbl1.trans b3⟩
                  case measure => simp [intOf]; omega
                · subst h2
                  go_wp2_with fail
                  refine hlen.mono ?_
                  rintro e w2 ⟨rfl, rfl⟩
                  go_wp2_with fail
                  refine (HW.out _ hbd1 hsz1).mono ?_
                  rintro e w3 ⟨rfl, hb3, b3⟩
                  go_wp2
                  go_roundw
                  case rel => exact ⟨S / 10, _, rfl, HCA, by omega, by
                    rw [HDS.out (.inr h3), ← intsOf_snoc]; exact .inr (by simpa using hb3), hbl1.trans b3⟩
                  case measure => simp [intOf]; omega
                · subst h2
                  subst h3
                  go_wp2_with fail
                  refine hlen.mono ?_
                  rintro e w2 ⟨rfl, rfl⟩
                  go_wp2
                  go_roundw
                  case rel => exact ⟨S / 10, _, rfl, HCA, by omega, by
                    rw [HDT.out (by omega)]; exact hbd1, hbl1⟩
                  case measure => simp [intOf]; omega
              · have hS00 : S = 0 := by omega
                subst hS00
                have HE := Lib.hid hca.out.end_
                go_wp2
                go_roundw
                case rel => exact ⟨t, m, by go_num, by omega, Lib.hid (by rw [HE.out, HC.out]), hbd1, hbl1⟩
                case measure => simp [intOf]
      · have hg0 : gk ≠ 0 := fun h => hk0 (hk3.2 h)
        have HCH := Lib.hid (hch.out.step hg0 HN.out)
        have HM : Hid (gk < P2 L) := Lib.hid (Nat.lt_of_le_of_lt hgn.out HN.out)
        have HG : Hid (gk / 1000000000 ≤ n) := Lib.hid (by have := hgn.out; omega)
        have hcl : cs.length < 1099511627776 := by have := HCH.out.2; omega
        clear hk3 hch hgn
        go_wp2_with fail
        refine (divWord_own hu 1000000000 (by omega) (by omega) L (by omega) HM.out).mono ?_
        rintro e w1 ⟨v1, rfl, iv, b1, hfr⟩
        have hrow1 := hrow.keep b1 (Nat.le_refl _)
        have hsz1 := b1.size
        obtain ⟨ao4, k4, cap4, rfl, hk5, hk6⟩ := iv.len
        have HK5 := Lib.hid hk5
        clear hk5
        go_wp2_with (at_builtin; go_loud (refine wpList_append_row _ rfl _ _ 23 rfl wo.heap.size 115 .u32 4 Try.underlying23 (by kernel_rfl) (by omega) _ cs _ (gk % 1000000000) (by rfl) hrow1 (by rfl) (by omega) hcl (by omega) ?_; intro v' w' hrow' hbel' hfr'))
        go_roundg (gk / 1000000000)
        case measure => omega
        case rel => exact ⟨_, iv.kept (fun k hk hc => by have := hfr k hk; have := (hrow.lt k hc).2; omega) hfr', HG, hrow', Lib.hid HCH.out.1, (hbel.trans (b1.mono hsz)).trans hbel'⟩

end Go.Proofs.Ytppbhjhbaknidaa
