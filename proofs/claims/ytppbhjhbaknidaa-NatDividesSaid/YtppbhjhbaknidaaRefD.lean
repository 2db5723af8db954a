/-
  The contract of the specification's Mul. Condition: numbers of at most 2^33 bits.
-/
import Derived.Test.YtppbhjhbaknidaaRefC
namespace Go.Proofs.Ytppbhjhbaknidaa
open Go.RowKit

theorem mul_bdR {x y : Nat} (hx : x < 65536) (hy : y < 65536) : x * y ≤ 4294836225 := by
  have := Nat.mul_le_mul (show x ≤ 65535 by omega) (show y ≤ 65535 by omega)
  omega

structure MulRI (xs ys zs0 zs : List Nat) (i k c : Nat) : Prop where
  len : zs.length = zs0.length
  dg : Dg 65536 zs
  car : c < 65536
  eq : val 65536 zs + 65536 ^ (i + k) * c = val 65536 zs0 + 65536 ^ i * (nth xs i * val 65536 (ys.take k))

structure MulRO (xs ys zs : List Nat) (i : Nat) : Prop where
  len : zs.length = xs.length + ys.length
  dg : Dg 65536 zs
  eq : val 65536 zs = val 65536 (xs.take i) * val 65536 ys

theorem MulRI.zero {xs ys zs0 : List Nat} (h : Dg 65536 zs0) (i : Nat) : MulRI xs ys zs0 zs0 i 0 0 := ⟨rfl, h, by omega, by simp [val]⟩

theorem MulRI.in {xs ys zs0 zs : List Nat} {i k c : Nat} (g : MulRO xs ys zs0 i) (h : MulRI xs ys zs0 zs i k c) (hx : Dg 65536 xs) (hy : Dg 65536 ys) (hi : i < xs.length) (hk : k < ys.length ∨ 0 < c) : i + k < xs.length + ys.length := by
  by_cases hlt : k < ys.length
  · omega
  · have hc : 0 < c := by omega
    have e := h.eq
    rw [val_take_ge _ (by omega), g.eq] at e
    have e2 : val 65536 (xs.take i) * val 65536 ys + 65536 ^ i * (nth xs i * val 65536 ys) = val 65536 (xs.take (i + 1)) * val 65536 ys := by
      rw [val_take_succ, Nat.add_mul, Nat.mul_assoc]
    rw [e2] at e
    have b1 := val_lt (hx.take (i + 1))
    rw [List.length_take, Nat.min_eq_left (by omega)] at b1
    have b2 := val_lt hy
    have b3 := Nat.mul_lt_mul'' b1 b2
    rw [← Nat.pow_add, ← e] at b3
    have b4 : 65536 ^ (i + k) * 1 ≤ 65536 ^ (i + k) * c := Nat.mul_le_mul_left _ hc
    have b5 : 65536 ^ (i + k) < 65536 ^ (i + 1 + ys.length) := by omega
    have := (Nat.pow_lt_pow_iff_right (by omega)).1 b5
    omega

theorem MulRI.step {xs ys zs0 zs : List Nat} {i k c : Nat} (h : MulRI xs ys zs0 zs i k c) (hx : Dg 65536 xs) (hy : Dg 65536 ys) (hi : i + k < zs0.length) :
    MulRI xs ys zs0 (zs.set (i + k) ((c + (nth zs (i + k) + nth xs i * nth ys k)) % 65536)) i (k + 1) ((c + (nth zs (i + k) + nth xs i * nth ys k)) / 65536) := by
  have b1 := mul_bdR (hx.nth (by omega) i) (hy.nth (by omega) k)
  have b2 := h.dg.nth (by omega) (i + k)
  have b3 := h.car
  have hv := val_set 65536 zs (i + k) ((c + (nth zs (i + k) + nth xs i * nth ys k)) % 65536) (by rw [h.len]; exact hi)
  refine ⟨by rw [List.length_set, h.len], h.dg.set _ (Nat.mod_lt _ (by omega)), by omega, ?_⟩
  have e := h.eq
  rw [val_take_succ, Nat.mul_add (nth xs i), Nat.mul_add (65536 ^ i)]
  have e3 : 65536 ^ i * (nth xs i * (65536 ^ k * nth ys k)) = 65536 ^ (i + k) * (nth xs i * nth ys k) := by
    rw [Nat.pow_add]; simp only [Nat.mul_assoc, Nat.mul_left_comm]
  rw [e3, ← Nat.add_assoc i k 1, Nat.pow_succ 65536 (i + k), Nat.mul_assoc]
  generalize 65536 ^ (i + k) = p at *
  generalize hs : c + (nth zs (i + k) + nth xs i * nth ys k) = s at *
  have e2 : p * (s % 65536) + p * (65536 * (s / 65536)) = p * (nth xs i * nth ys k) + p * nth zs (i + k) + p * c := by
    rw [← Nat.mul_add, Nat.mod_add_div, ← hs, Nat.mul_add, Nat.mul_add]; omega
  omega

theorem MulRO.zero (xs ys : List Nat) (n : Nat) (h : n = xs.length + ys.length) : MulRO xs ys (List.replicate n 0) 0 :=
  ⟨by simp [h], Dg.zeros (by omega) _, by simp [val_zeros, val]⟩

theorem MulRO.step {xs ys zs0 zs : List Nat} {i k : Nat} (h : MulRO xs ys zs0 i) (g : MulRI xs ys zs0 zs i k 0) (hk : ys.length ≤ k) : MulRO xs ys zs (i + 1) := by
  refine ⟨by rw [g.len, h.len], g.dg, ?_⟩
  have e := g.eq
  rw [val_take_ge _ hk, h.eq, Nat.mul_zero, Nat.add_zero] at e
  rw [e, val_take_succ, Nat.add_mul, Nat.mul_assoc]

set_option maxHeartbeats 1000000 in
theorem mulR_any {w : World} {va vb : Value} {m n : Nat} (ha : IsR w va m) (hb : IsR w vb n) (L : Nat) (hL : L ≤ 8589934592) (hm : m < P2 L) (hn : n < P2 L) :
    Calls Try.prog 38 #[va, vb] w (RetR w (m * n)) := by
  obtain ⟨xs, ha, hca, rfl⟩ := ha
  obtain ⟨ys, hb, hcb, rfl⟩ := hb
  have l1 := hca.len_R hm
  have l2 := hcb.len_R hn
  have hb' := id hb
  obtain ⟨ao, n, cap, b, off, rfl, hs⟩ := ha
  obtain ⟨ao2, n2, cap2, b2, off2, rfl, hs2⟩ := hb
  have E1 := Lib.hid hs.len
  have E2 := Lib.hid hs2.len
  rw [E1.out] at l1
  rw [E2.out] at l2
  have hda := hca.1
  have hdb := hcb.1
  clear hm hn
  go_enter Try.func38, Try.ntmps38
  go_wp2_with (first | (at_make; refine wpList_make_nums _ rfl _ _ 29 rfl 3 .i64 8 Try.underlying29 (by kernel_rfl) .i64 .i64 _ _ (n + n2) rfl rfl rfl rfl (by omega) (by omega) ?_; intro w1 hown hbel))
  go_loopw [6] (fun i wr => ∃ (k : Nat) (zs : List Nat), k ≤ n ∧ i = .int .i64 k ∧ MulRO xs ys zs k ∧ Own wr .i64 3 w.heap.size zs ∧ Below w.heap.size w wr)
    (fun i _ => n - (intOf i).toNat)
  case atStart => exact ⟨0, _, Nat.zero_le _, rfl, MulRO.zero xs ys (n + n2) (by rw [hs.len, hs2.len]), hown, hbel⟩
  case round =>
    obtain ⟨i, zs0, hi, rfl, hinv, hown0, hbel0⟩ := hrel
    clear hown hbel
    by_cases hlt : i < n
    · obtain rfl := hs.addr.resolve_right (by omega)
      have hx := hda.nth (by omega) i
      go_wp2
      obtain ⟨wo, rfl⟩ : ∃ wo : World, wo = wr := ⟨_, rfl⟩
      go_loopw [7, 8] (fun c k wr => ∃ (j cc : Nat) (zs : List Nat), i + j ≤ n + n2 ∧ k = .int .i64 j ∧ c = .int .i64 cc ∧ MulRI xs ys zs0 zs i j cc ∧ Own wr .i64 3 w.heap.size zs ∧ Below w.heap.size w wr)
        (fun _ k _ => n + n2 - (intOf k).toNat)
      case atStart => exact ⟨0, 0, zs0, by omega, rfl, rfl, MulRI.zero hinv.dg _, hown0, hbel0⟩
      case round =>
        obtain ⟨j, cc, zs, hj, rfl, rfl, hin, hown1, hbel1⟩ := hrel
        have hcc := hin.car
        have HLZ : Hid (zs.length = n + n2) := by rw [hin.len, hinv.len, E1.out, E2.out]; rfl
        by_cases hr : j < n2 ∨ 0 < cc
        · have hij := MulRI.in hinv hin hda hdb (by rw [E1.out]; exact hlt) (by rw [E2.out]; exact hr)
          rw [E1.out, E2.out] at hij
          have hc1 : wr.cell? ⟨b, off + i, none⟩ = some (.int .i64 (nth xs i)) := by
            rw [hbel1.cell (p := ⟨b, off + i, none⟩) (hs.lt (by omega))]; exact hs.cells i hlt
          have ho : wr.cell? ⟨w.heap.size, i + j, none⟩ = some (.int .i64 (nth zs (i + j))) := hown1.cell (by rw [HLZ.out]; omega)
          have hf := hown1.frozen (i + j)
          have hy := hdb.nth (by omega) j
          have hz := hin.dg.nth (by omega) (i + j)
          have hbb : 0 ≤ (nth xs i : Int) * (nth ys j : Int) ∧ (nth xs i : Int) * (nth ys j : Int) ≤ 4294836225 := by
            have := mul_bdR hx hy
            rw [← Int.natCast_mul]; omega
          obtain ⟨hb0, hb1⟩ := hbb
          have HF := Lib.hid (hin.step hda hdb (by rw [hinv.len, E1.out, E2.out]; omega))
          have B2 := at_part (hb'.below hbel1) j (by omega)
          have hr' : j < n2 ∨ (n2 ≤ j ∧ 0 < cc) := by omega
          clear hr
          rcases hr' with hr | ⟨hr, hr2⟩
          all_goals
            go_wp2
            go_quiet ((go_at_call 104; (with_reducible refine Calls.quiet_of_same (B2.out _ ?_)); rfl))
            go_wp2
            go_roundw
            case rel =>
              refine ⟨j + 1, _, _, by omega, by go_num, ?_, HF.out, ?_, (below_drewN' hbel1 _).setCell (Nat.le_refl _) _⟩
              · refine congrArg _ ?_; rw [← Int.natCast_mul]; omega
              · exact (hown1.drewN _).seti (i + j) _ (by rw [← Int.natCast_mul]; omega)
            case measure => simp [intOf]; omega
        · have hc0 : cc = 0 := by omega
          subst hc0
          have HF := Lib.hid (hinv.step hin (by rw [E2.out]; omega))
          go_wp2
          go_roundw
          case rel => exact ⟨i + 1, zs, by omega, by go_num, HF.out, hown1, hbel1⟩
          case measure => simp [intOf]; omega
    · obtain rfl : i = n := by omega
      have hfin : val 65536 zs0 = val 65536 xs * val 65536 ys := by
        rw [hinv.eq, val_take_ge _ (Nat.le_of_eq E1.out)]
      have HF := Lib.hid hfin
      clear hfin
      have HL := Lib.hid hinv.len
      go_wp2_with fail
      refine (trim_any _ zs0 _ (hown0.sl (n := i + n2) (by rw [HL.out, E1.out, E2.out]) (by omega) hinv.dg.wf16)).mono ?_
      intro e w2 hr
      obtain ⟨v, rfl, hv, hb3⟩ := hr.numR hinv.dg HF.out hbel0
      go_wp2
      go_ret
      exact ⟨_, rfl, hv, hb3⟩

end Go.Proofs.Ytppbhjhbaknidaa
