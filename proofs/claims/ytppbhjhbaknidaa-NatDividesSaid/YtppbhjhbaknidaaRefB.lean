/-
  The contracts of the specification's Cmp, BitLen, Bit, Raw. Condition: rows of at most 2^40 digits.
-/
import Derived.Test.YtppbhjhbaknidaaRefA
namespace Go.Proofs.Ytppbhjhbaknidaa
open Go.RowKit

theorem blen_topR {xs : List Nat} (h : Can 65536 xs) (hn : xs ≠ []) : blen (val 65536 xs) = 16 * (xs.length - 1) + blen (nth xs (xs.length - 1)) ∧ 1 ≤ blen (nth xs (xs.length - 1)) ∧ blen (nth xs (xs.length - 1)) ≤ 16 := by
  have hl : 0 < xs.length := List.length_pos_iff.2 hn
  have e := val_take_drop 65536 xs (xs.length - 1) (by omega)
  have e2 : xs.drop (xs.length - 1) = [nth xs (xs.length - 1)] := by
    apply List.ext_getElem
    · simp; omega
    · intro i h1 h2
      simp at h1 h2
      have : i = 0 := by omega
      subst this
      rw [List.getElem_drop, List.getElem_singleton, nth_lt (by omega)]; rfl
  rw [e2] at e
  simp only [val, Nat.mul_zero, Nat.add_zero] at e
  have b1 := val_lt (h.1.take (xs.length - 1))
  rw [List.length_take, Nat.min_eq_left (by omega)] at b1
  have hg := h.ge hn
  have hd := h.1.nth (by omega) (xs.length - 1)
  rw [P2_16] at e b1 hg
  generalize nth xs (xs.length - 1) = d at *
  generalize val 65536 (xs.take (xs.length - 1)) = r at *
  generalize 16 * (xs.length - 1) = p at *
  have hd0 : d ≠ 0 := by intro h0; subst h0; omega
  have hb : 1 ≤ blen d := by
    have : ¬ blen d ≤ 0 := fun h => by have := blen_le.1 h; unfold P2 at this; omega
    omega
  have hb16 : blen d ≤ 16 := blen_le.2 (by unfold P2; omega)
  obtain ⟨q, hq⟩ : ∃ q, blen d = q + 1 := ⟨blen d - 1, by omega⟩
  have h1 : d < P2 (q + 1) := by rw [← hq]; exact lt_blen
  have h2 : P2 q ≤ d := by
    have : ¬ blen d ≤ q := by omega
    have := mt blen_le.2 this
    omega
  refine ⟨?_, hb, hb16⟩
  rw [hq, ← Nat.add_assoc]
  apply blen_eq
  · rw [Nat.add_assoc, P2_add, e]
    have : P2 p * (d + 1) ≤ P2 p * P2 (q + 1) := Nat.mul_le_mul_left _ h1
    rw [Nat.mul_add] at this
    omega
  · rw [P2_add, e]
    have : P2 p * P2 q ≤ P2 p * d := Nat.mul_le_mul_left _ h2
    omega


theorem blen_half {n : Nat} (h : n ≠ 0) : blen n = blen (n / 2) + 1 := by
  apply blen_eq
  · have := lt_blen (n := n / 2)
    rw [P2_succ]; omega
  · by_cases h1 : n / 2 = 0
    · rw [h1, show blen 0 = 0 from rfl]; unfold P2; omega
    · have h2 : ¬ blen (n / 2) ≤ blen (n / 2) - 1 := by
        have : blen (n / 2) ≠ 0 := by unfold blen; rw [if_neg h1]; omega
        omega
      have h3 := mt blen_le.2 h2
      have h4 : P2 (blen (n / 2)) = 2 * P2 (blen (n / 2) - 1) := by
        rw [← P2_succ]; congr 1; omega
      omega

set_option maxHeartbeats 400000 in
theorem bitLenR_any {w : World} {v : Value} {n : Nat} (h : IsR w v n) :
    Calls Try.prog 68 #[v] w fun e w' => e = .returned (.int .i64 (blen n)) ∧ w' = w := by
  obtain ⟨xs, h, hca, rfl⟩ := h
  obtain ⟨ao, n, cap, b, off, rfl, hs⟩ := h
  have hle := hs.le
  have hmax := hs.max
  by_cases h0 : n = 0
  · have hx : xs = [] := List.length_eq_zero_iff.1 (by rw [hs.len, h0])
    have hz : blen (val 65536 xs) = 0 := by subst hx; rfl
    rw [hz]
    subst h0
    go_enter Try.func68, Try.ntmps68
    go_wp2
    go_ret
    exact ⟨rfl, rfl⟩
  · have hne : xs ≠ [] := fun hx => h0 (by rw [← hs.len, hx]; rfl)
    obtain ⟨t1, t2, t3⟩ := blen_topR hca hne
    obtain rfl := hs.addr.resolve_right (by omega)
    have hc := hs.cells (n - 1) (by omega)
    have hd := hca.1.nth (by omega) (xs.length - 1)
    rw [hs.len] at t1 t2 t3 hd
    rw [t1]
    clear t1
    generalize nth xs (n - 1) = d at *
    have hdd := Lib.hid t2
    clear t2
    go_enter Try.func68, Try.ntmps68
    go_wp2
    go_loop [3, 4] (fun c x => ∃ k m : Nat, c = .int .i64 k ∧ x = .int .i64 m ∧ m ≤ d ∧ k + blen m = 16 * (n - 1) + blen d) (fun _ x => (intOf x).toNat)
    case atStart => exact ⟨16 * (n - 1), d, by go_num, rfl, Nat.le_refl _, rfl⟩
    case round =>
      obtain ⟨k, m, rfl, rfl, hm, hk⟩ := hrel
      by_cases hm0 : m = 0
      · subst hm0
        rw [show blen 0 = 0 from rfl, Nat.add_zero] at hk
        have HK := Lib.hid hk
        have hk2 : k ≤ 17592186044416 := by omega
        clear hk
        go_wp2
        go_ret
        exact ⟨by rw [HK.out]; rfl, rfl⟩
      · have h2 := blen_half hm0
        have hk2 : k ≤ 17592186044416 := by omega
        have H2 := Lib.hid h2
        clear h2
        have HK := Lib.hid hk
        clear hk t3
        go_wp2
        go_round
        case rel => exact ⟨k + 1, m / 2, by go_num, by go_num, by omega, by have := HK.out; have := H2.out; omega⟩
        case measure => simp [intOf]; omega

set_option maxHeartbeats 1000000 in
theorem cmpR_any {w : World} {va vb : Value} {m n : Nat} (ha : IsR w va m) (hb : IsR w vb n) :
    Calls Try.prog 55 #[va, vb] w (RetI w (cmpI m n)) := by
  obtain ⟨xs, ha, hca, rfl⟩ := ha
  obtain ⟨ys, hb, hcb, rfl⟩ := hb
  obtain ⟨ao, n, cap, b, off, rfl, hs⟩ := ha
  obtain ⟨ao2, n2, cap2, b2, off2, rfl, hs2⟩ := hb
  have hle := hs.le
  have hmax := hs.max
  have hle2 := hs2.le
  have hmax2 := hs2.max
  rcases Nat.lt_trichotomy n n2 with hlt | heq | hgt
  · have hv := val_lt_len (by omega) hca.1 hcb (by rw [hs.len, hs2.len]; exact hlt)
    have hfin : cmpI (val 65536 xs) (val 65536 ys) = -1 := by simp [cmpI, hv]
    rw [hfin]
    clear hfin
    have HV := Lib.hid hv
    clear hv
    go_enter Try.func55, Try.ntmps55
    go_wp2
    go_ret
    exact ⟨rfl, Below.refl _ _⟩
  · subst heq
    go_enter Try.func55, Try.ntmps55
    go_wp2
    go_loopw [5] (fun i wr => ∃ j : Nat, j ≤ n ∧ i = .int .i64 ((j : Int) - 1) ∧ (∀ t, j ≤ t → nth xs t = nth ys t) ∧ Below w.heap.size w wr)
      (fun i _ => (intOf i + 1).toNat)
    case atStart => exact ⟨n, Nat.le_refl _, rfl, fun t ht => by rw [nth_ge (by rw [hs.len]; exact ht), nth_ge (by rw [hs2.len]; exact ht)], Below.refl _ _⟩
    case round =>
      obtain ⟨j, hj, rfl, heq, hbel⟩ := hrel
      have HE := Lib.hid heq
      clear heq
      by_cases h0 : j = 0
      · have hd : decide ((0 : Int) ≤ (j : Int) - 1) = false := decide_eq_false (by omega)
        have hfin : cmpI (val 65536 xs) (val 65536 ys) = 0 := by
          have : xs = ys := list_ext_nth (by rw [hs.len, hs2.len]) (fun i _ => HE.out i (by omega))
          simp [cmpI, this]
        have HF := Lib.hid hfin
        clear hfin
        go_wp2
        go_ret
        exact ⟨by rw [HF.out]; rfl, hbel⟩
      · obtain ⟨k, rfl⟩ : ∃ k, j = k + 1 := ⟨j - 1, by omega⟩
        obtain rfl := hs.addr.resolve_right (by omega)
        obtain rfl := hs2.addr.resolve_right (by omega)
        have hc1 : wr.cell? ⟨b, off + k, none⟩ = some (.int .i64 (nth xs k)) := by
          rw [hbel.cell (p := ⟨b, off + k, none⟩) (hs.lt (by omega))]; exact hs.cells k (by omega)
        have hc2 : wr.cell? ⟨b2, off2 + k, none⟩ = some (.int .i64 (nth ys k)) := by
          rw [hbel.cell (p := ⟨b2, off2 + k, none⟩) (hs2.lt (by omega))]; exact hs2.cells k (by omega)
        rw [show ((k + 1 : Nat) : Int) - 1 = (k : Int) by omega]
        rcases Nat.lt_trichotomy (nth xs k) (nth ys k) with h1 | h1 | h1
        · have hfin : cmpI (val 65536 xs) (val 65536 ys) = -1 := by
            simp [cmpI, val_lt_at hca.1 (by rw [hs.len, hs2.len]) k (by rw [hs.len]; omega) (fun t ht => HE.out t (by omega)) h1]
          have HF := Lib.hid hfin
          clear hfin
          have t2 : decide ((nth xs k : Int) < (nth ys k : Int)) = true := decide_eq_true (by omega)
          go_wp2
          go_quiet (fail)
          go_wp2
          go_ret
          exact ⟨by rw [HF.out]; rfl, below_drewN' hbel _⟩
        · have t1 : decide ((nth xs k : Int) < (nth ys k : Int)) = false := decide_eq_false (by omega)
          have t2 : decide ((nth ys k : Int) < (nth xs k : Int)) = false := decide_eq_false (by omega)
          have n1 : nth xs k ≤ nth ys k := by omega
          have n2 : nth ys k ≤ nth xs k := by omega
          have H1 := Lib.hid h1
          clear h1
          go_wp2
          go_quiet (fail)
          go_wp2
          go_quiet (fail)
          go_wp2
          go_roundw
          case rel => exact ⟨k, by omega, rfl, fun t ht => by
            by_cases e : t = k
            · rw [e]; exact H1.out
            · exact HE.out t (by omega), by first | exact below_drewN' hbel _ | exact below_drewN' (below_drewN' hbel _) _⟩
          case measure => simp [intOf]
        · have hfin : cmpI (val 65536 xs) (val 65536 ys) = 1 := by
            have := val_lt_at hcb.1 (by rw [hs.len, hs2.len]) k (by rw [hs2.len]; omega) (fun t ht => (HE.out t (by omega)).symm) h1
            simp [cmpI, this, Nat.lt_asymm this]
          have HF := Lib.hid hfin
          clear hfin
          have t1 : decide ((nth xs k : Int) < (nth ys k : Int)) = false := decide_eq_false (by omega)
          have t2 : decide ((nth ys k : Int) < (nth xs k : Int)) = true := decide_eq_true (by omega)
          go_wp2
          go_quiet (fail)
          go_wp2
          go_quiet (fail)
          go_wp2
          go_ret
          exact ⟨by rw [HF.out]; rfl, by first | exact below_drewN' hbel _ | exact below_drewN' (below_drewN' hbel _) _⟩
  · have hv := val_lt_len (by omega) hcb.1 hca (by rw [hs.len, hs2.len]; exact hgt)
    have hfin : cmpI (val 65536 xs) (val 65536 ys) = 1 := by simp [cmpI, hv, Nat.lt_asymm hv]
    rw [hfin]
    clear hfin
    have HV := Lib.hid hv
    clear hv
    go_enter Try.func55, Try.ntmps55
    go_wp2
    go_ret
    exact ⟨rfl, Below.refl _ _⟩


theorem cellLt {w : World} {a : Addr} {v : Value} (h : w.cell? a = some v) : a.block < w.heap.size := by
  refine Nat.lt_of_not_le fun hc => ?_
  simp [World.cell?, Array.getElem?_eq_none hc] at h
/-- A slice of uint16 that came in. -/
def In16 (w : World) (v : Value) : Prop := ∃ a len cap, v = .slice a len cap ∧ len ≤ 9223372036854775807 ∧ (len = 0 ∨ ∃ x : Addr, a = some x ∧ ∃ f : Nat → Nat, ∀ i, i < len → w.cell? (x.add i) = some (.int .u16 (f i)) ∧ f i < 65536)

theorem In16.below {w w' : World} {v : Value} (h : In16 w v) (hb : Below w.heap.size w w') : In16 w' v := by
  obtain ⟨a, len, cap, rfl, h1, h2⟩ := h
  refine ⟨a, len, cap, rfl, h1, h2.imp id ?_⟩
  rintro ⟨x, hx, f, hf⟩
  exact ⟨x, hx, f, fun i hi => ⟨by rw [hb.cell (cellLt (hf i hi).1)]; exact (hf i hi).1, (hf i hi).2⟩⟩

set_option maxHeartbeats 1000000 in
set_option maxRecDepth 100000 in
theorem raw_any {w : World} {v : Value} (h : In16 w v) (most : Nat) (hm : most ≤ 1099511627776) :
    Calls Try.prog 35 #[v, .int .i64 most] w fun e w' => ∃ n, n < P2 (16 * most) ∧ RetR w n e w' := by
  obtain ⟨a, len, cap, rfl, h1, h2⟩ := h
  go_enter Try.func35, Try.ntmps35
  go_wp2
  go_loopw [5, 6] (fun o i wr => ∃ (xs : List Nat), i = .int .i64 xs.length ∧ xs.length ≤ len ∧ xs.length ≤ most ∧ Row wr w.heap.size .i64 3 o xs ∧ Below w.heap.size w wr ∧ Dg 65536 xs) (fun _ i _ => most - (intOf i).toNat)
  case atStart => exact ⟨[], rfl, by simp, by simp, Row.nil _ _ _ _, Below.refl _ _, Dg.nil _⟩
  case round =>
    obtain ⟨xs, rfl, hl, hl2, hrow, hb, hd⟩ := hrel
    have hsz := hb.size
    obtain ⟨k, hk⟩ : ∃ k, k = xs.length := ⟨_, rfl⟩
    rw [← hk] at hl hl2 ⊢
    have HK := Lib.hid hk
    clear hk
    by_cases hr : k < len ∧ k < most
    · obtain ⟨hr1, hr2⟩ := hr
      obtain ⟨x, rfl, f, hf⟩ := h2.resolve_left (by omega)
      have hc : wr.cell? (x.add k) = some (.int .u16 (f k)) := by
        rw [hb.cell (cellLt (hf k hr1).1)]; exact (hf k hr1).1
      have hfk := (hf k hr1).2
      have hxl : xs.length < 1099511627776 := by have := HK.out; omega
      go_wp2_with (at_builtin; go_loud (refine wpList_append_row _ rfl _ _ 29 rfl w.heap.size 3 .i64 8 Try.underlying29 (by kernel_rfl) (by omega) _ xs _ (f k) (by rfl) hrow (by rfl) (by rfl) hxl hsz ?_; intro v' w' hrow' hbel' _))
      go_roundw
      case rel => exact ⟨xs ++ [f k], by rw [List.length_append, ← HK.out]; go_num, by have := HK.out; simp; omega, by have := HK.out; simp; omega, hrow', hb.trans hbel', hd.snoc hfk⟩
      case measure => simp [intOf]; omega
    · have hnum : RetSl .i64 wr (trim xs) = RetSl .i64 wr (trim xs) := rfl
      have hsl := hrow.sl (by have := HK.out; omega) hd.wf16
      have hv := val_lt hd
      rw [P2_16] at hv
      have hv2 := lt_P2_mono hv (show 16 * xs.length ≤ 16 * most by have := HK.out; omega)
      have HV := Lib.hid hv2
      clear hv hv2 hnum
      have hr' : len ≤ k ∨ (k < len ∧ most ≤ k) := by omega
      clear hr
      rcases hr' with hr | ⟨hr, hr2⟩
      all_goals
        go_wp2_with fail
        refine (trim_any _ _ _ hsl).mono ?_
        intro e w2 hret
        obtain ⟨v2, rfl, hret'⟩ := id hret
        go_wp2
        go_ret
        exact ⟨_, HV.out, hret.numR hd rfl hb⟩

end Go.Proofs.Ytppbhjhbaknidaa
