/-
  The contract of the program's cmp: -1, 0 or 1 as the numbers are. Condition: numbers of at most 2^33 bits.
-/
import Derived.Test.YtppbhjhbaknidaaNum
namespace Go.Proofs.Ytppbhjhbaknidaa
open Go.RowKit

def cmpI (m n : Nat) : Int := if m < n then -1 else if n < m then 1 else 0

theorem list_ext_nth {xs ys : List Nat} (h : xs.length = ys.length) (he : ∀ i, i < xs.length → nth xs i = nth ys i) : xs = ys := by
  apply List.ext_getElem h
  intro i h1 h2
  rw [← nth_lt h1, ← nth_lt h2]; exact he i h1

theorem val_at (b : Nat) (xs : List Nat) (k : Nat) (h : k < xs.length) : val b xs = val b (xs.take k) + b ^ k * (nth xs k + b * val b (xs.drop (k + 1))) := by
  rw [val_take_drop b xs (k + 1) (by omega), val_take_succ, Nat.mul_add, Nat.pow_succ, Nat.mul_assoc]; omega

theorem val_lt_at {b : Nat} {xs ys : List Nat} (hx : Dg b xs) (hl : xs.length = ys.length) (k : Nat) (hk : k < xs.length)
    (he : ∀ t, k < t → nth xs t = nth ys t) (hlt : nth xs k < nth ys k) : val b xs < val b ys := by
  rw [val_at b xs k hk, val_at b ys k (by omega)]
  have e : xs.drop (k + 1) = ys.drop (k + 1) := by
    apply list_ext_nth (by rw [List.length_drop, List.length_drop, hl])
    intro i _
    rw [nth_drop, nth_drop]; exact he _ (by omega)
  have h1 := val_lt (hx.take k)
  rw [List.length_take, Nat.min_eq_left (by omega)] at h1
  rw [e]
  have h2 : b ^ k * (nth xs k + 1 + b * val b (ys.drop (k + 1))) ≤ b ^ k * (nth ys k + b * val b (ys.drop (k + 1))) := Nat.mul_le_mul_left _ (by omega)
  have h3 : b ^ k * (nth xs k + 1 + b * val b (ys.drop (k + 1))) = b ^ k * (nth xs k + b * val b (ys.drop (k + 1))) + b ^ k := by
    rw [show nth xs k + 1 + b * val b (ys.drop (k + 1)) = (nth xs k + b * val b (ys.drop (k + 1))) + 1 by omega, Nat.mul_add, Nat.mul_one]
  omega

theorem val_lt_len {b : Nat} (hb : 0 < b) {xs ys : List Nat} (hx : Dg b xs) (hy : Can b ys) (hl : xs.length < ys.length) : val b xs < val b ys := by
  have h1 := val_lt hx
  have h2 := hy.ge (by intro h; simp [h] at hl)
  have h3 : b ^ xs.length ≤ b ^ (ys.length - 1) := Nat.pow_le_pow_right hb (by omega)
  omega

def RetI (w : World) (z : Int) (e : Ending) (w' : World) : Prop := e = .returned (.int .i64 z) ∧ Below w.heap.size w w'


set_option maxHeartbeats 1000000 in
theorem cmp_any {w : World} {va vb : Value} {m n : Nat} (ha : IsN w va m) (hb : IsN w vb n) :
    Calls Try.prog 107 #[va, vb] w (RetI w (cmpI m n)) := by
  obtain ⟨xs, ha, hca, rfl⟩ := ha
  obtain ⟨ys, hb, hcb, rfl⟩ := hb
  obtain ⟨ao, n, cap, b, off, rfl, hs⟩ := ha
  obtain ⟨ao2, n2, cap2, b2, off2, rfl, hs2⟩ := hb
  have hle := hs.le
  have hmax := hs.max
  have hle2 := hs2.le
  have hmax2 := hs2.max
  rcases Nat.lt_trichotomy n n2 with hlt | heq | hgt
  · have hv := val_lt_len (by omega) hca.1 hcb (by rw [hs.len, hs2.len]; exact hlt)
    have hfin : cmpI (val 4294967296 xs) (val 4294967296 ys) = -1 := by simp [cmpI, hv]
    rw [hfin]
    clear hfin
    have HV := Lib.hid hv
    clear hv
    go_enter Try.func107, Try.ntmps107
    go_wp2
    go_ret
    exact ⟨rfl, Below.refl _ _⟩
  · subst heq
    go_enter Try.func107, Try.ntmps107
    go_wp2
    go_loopw [5] (fun i wr => ∃ j : Nat, j ≤ n ∧ i = .int .i64 ((j : Int) - 1) ∧ (∀ t, j ≤ t → nth xs t = nth ys t) ∧ Below w.heap.size w wr)
      (fun i _ => (intOf i + 1).toNat)
    case atStart => exact ⟨n, Nat.le_refl _, rfl, fun t ht => by rw [nth_ge (by rw [hs.len]; exact ht), nth_ge (by rw [hs2.len]; exact ht)], Below.refl _ _⟩
    case round =>
      obtain ⟨j, hj, rfl, heq, hbel⟩ := hrel
      have HE := Lib.hid heq
      clear heq
      by_cases h0 : j = 0
      · have hd : decide ((0 : Int) ≤ (j : Int) - 1) = false := decide_eq_false (by omega)
        have hfin : cmpI (val 4294967296 xs) (val 4294967296 ys) = 0 := by
          have : xs = ys := list_ext_nth (by rw [hs.len, hs2.len]) (fun i _ => HE.out i (by omega))
          simp [cmpI, this]
        have HF := Lib.hid hfin
        clear hfin
        go_wp2
        go_ret
        exact ⟨by rw [HF.out]; rfl, hbel⟩
      · obtain ⟨k, rfl⟩ : ∃ k, j = k + 1 := ⟨j - 1, by omega⟩
        obtain rfl := hs.addr.resolve_right (by omega)
        obtain rfl := hs2.addr.resolve_right (by omega)
        have hc1 : wr.cell? ⟨b, off + k, none⟩ = some (.int .u32 (nth xs k)) := by
          rw [hbel.cell (p := ⟨b, off + k, none⟩) (hs.lt (by omega))]; exact hs.cells k (by omega)
        have hc2 : wr.cell? ⟨b2, off2 + k, none⟩ = some (.int .u32 (nth ys k)) := by
          rw [hbel.cell (p := ⟨b2, off2 + k, none⟩) (hs2.lt (by omega))]; exact hs2.cells k (by omega)
        rw [show ((k + 1 : Nat) : Int) - 1 = (k : Int) by omega]
        rcases Nat.lt_trichotomy (nth xs k) (nth ys k) with h1 | h1 | h1
        · have hfin : cmpI (val 4294967296 xs) (val 4294967296 ys) = -1 := by
            simp [cmpI, val_lt_at hca.1 (by rw [hs.len, hs2.len]) k (by rw [hs.len]; omega) (fun t ht => HE.out t (by omega)) h1]
          have HF := Lib.hid hfin
          clear hfin
          have t1 : ((nth xs k : Int) != (nth ys k : Int)) = true := by rw [bne_iff_ne]; omega
          have t2 : decide ((nth xs k : Int) < (nth ys k : Int)) = true := decide_eq_true (by omega)
          go_wp2
          go_quiet (fail)
          go_wp2
          go_quiet (fail)
          go_wp2
          go_ret
          exact ⟨by rw [HF.out]; rfl, below_drewN' (below_drewN' hbel _) _⟩
        · have t1 : ((nth xs k : Int) != (nth ys k : Int)) = false := by simp [h1]
          have H1 := Lib.hid h1
          clear h1
          go_wp2
          go_quiet (fail)
          go_wp2
          go_roundw
          case rel => exact ⟨k, by omega, rfl, fun t ht => by
            by_cases e : t = k
            · rw [e]; exact H1.out
            · exact HE.out t (by omega), below_drewN' hbel _⟩
          case measure => simp [intOf]
        · have hfin : cmpI (val 4294967296 xs) (val 4294967296 ys) = 1 := by
            have := val_lt_at hcb.1 (by rw [hs.len, hs2.len]) k (by rw [hs2.len]; omega) (fun t ht => (HE.out t (by omega)).symm) h1
            simp [cmpI, this, Nat.lt_asymm this]
          have HF := Lib.hid hfin
          clear hfin
          have t1 : ((nth xs k : Int) != (nth ys k : Int)) = true := by rw [bne_iff_ne]; omega
          have t2 : decide ((nth xs k : Int) < (nth ys k : Int)) = false := decide_eq_false (by omega)
          go_wp2
          go_quiet (fail)
          go_wp2
          go_quiet (fail)
          go_wp2
          go_ret
          exact ⟨by rw [HF.out]; rfl, below_drewN' (below_drewN' hbel _) _⟩
  · have hv := val_lt_len (by omega) hcb.1 hca (by rw [hs.len, hs2.len]; exact hgt)
    have hfin : cmpI (val 4294967296 xs) (val 4294967296 ys) = 1 := by simp [cmpI, hv, Nat.lt_asymm hv]
    rw [hfin]
    clear hfin
    have HV := Lib.hid hv
    clear hv
    go_enter Try.func107, Try.ntmps107
    go_wp2
    go_ret
    exact ⟨rfl, Below.refl _ _⟩

end Go.Proofs.Ytppbhjhbaknidaa
