/-
  The contract of the program's mulPlain: the product. Condition: numbers of at most 2^33 bits.
-/
import Derived.Test.YtppbhjhbaknidaaNum
namespace Go.Proofs.Ytppbhjhbaknidaa
open Go.RowKit


theorem mul_bd {x y : Nat} (hx : x < 4294967296) (hy : y < 4294967296) : x * y ≤ 18446744065119617025 := by
  have := Nat.mul_le_mul (show x ≤ 4294967295 by omega) (show y ≤ 4294967295 by omega)
  omega

theorem mul_bdI {x y : Nat} (hx : x < 4294967296) (hy : y < 4294967296) : (x : Int) * (y : Int) ≤ 18446744065119617025 ∧ 0 ≤ (x : Int) * (y : Int) := by
  have := mul_bd hx hy
  rw [← Int.natCast_mul]
  omega

structure MulIn (ys zs0 zs : List Nat) (x i k c : Nat) : Prop where
  len : zs.length = zs0.length
  dg : Dg 4294967296 zs
  car : c < 4294967296
  eq : val 4294967296 zs + 4294967296 ^ (i + k) * c = val 4294967296 zs0 + 4294967296 ^ i * (x * val 4294967296 (ys.take k))
  top : ∀ t, i + k ≤ t → nth zs t = nth zs0 t

theorem MulIn.zero {ys zs0 : List Nat} (h : Dg 4294967296 zs0) (x i : Nat) : MulIn ys zs0 zs0 x i 0 0 := ⟨rfl, h, by omega, by simp [val], fun _ _ => rfl⟩

theorem MulIn.step {ys zs0 zs : List Nat} {x i k c : Nat} (h : MulIn ys zs0 zs x i k c) (hx : x < 4294967296) (hy : Dg 4294967296 ys) (hi : i + k < zs0.length) :
    MulIn ys zs0 (zs.set (i + k) ((x * nth ys k + nth zs (i + k) + c) % 4294967296)) x i (k + 1) ((x * nth ys k + nth zs (i + k) + c) / 4294967296) := by
  have b1 := mul_bd hx (hy.nth (by omega) k)
  have b2 := h.dg.nth (by omega) (i + k)
  have b3 := h.car
  have hv := val_set 4294967296 zs (i + k) ((x * nth ys k + nth zs (i + k) + c) % 4294967296) (by rw [h.len]; exact hi)
  refine ⟨by rw [List.length_set, h.len], h.dg.set _ (Nat.mod_lt _ (by omega)), by omega, ?_, ?_⟩
  · have e := h.eq
    rw [val_take_succ, Nat.mul_add x, Nat.mul_add (4294967296 ^ i)]
    have e3 : 4294967296 ^ i * (x * (4294967296 ^ k * nth ys k)) = 4294967296 ^ (i + k) * (x * nth ys k) := by
      rw [Nat.pow_add]; simp only [Nat.mul_assoc, Nat.mul_left_comm]
    rw [e3, ← Nat.add_assoc i k 1, Nat.pow_succ 4294967296 (i + k), Nat.mul_assoc]
    generalize 4294967296 ^ (i + k) = p at *
    generalize hs : x * nth ys k + nth zs (i + k) + c = s at *
    have e2 : p * (s % 4294967296) + p * (4294967296 * (s / 4294967296)) = p * (x * nth ys k) + p * nth zs (i + k) + p * c := by
      rw [← Nat.mul_add, Nat.mod_add_div, ← hs, Nat.mul_add, Nat.mul_add]
    omega
  · intro t ht
    rw [nth_set_ne _ _ _ _ (by omega)]
    exact h.top t (by omega)

structure MulOut (xs ys zs : List Nat) (i : Nat) : Prop where
  len : zs.length = xs.length + ys.length
  dg : Dg 4294967296 zs
  eq : val 4294967296 zs = val 4294967296 (xs.take i) * val 4294967296 ys
  top : ∀ t, i + ys.length ≤ t → nth zs t = 0


theorem MulOut.zero (xs ys : List Nat) (n : Nat) (h : n = xs.length + ys.length) : MulOut xs ys (List.replicate n 0) 0 :=
  ⟨by simp [h], Dg.zeros (by omega) _, by simp [val_zeros, val], fun t _ => nth_zeros n t⟩

theorem MulOut.step {xs ys zs0 zs : List Nat} {i c : Nat} (h : MulOut xs ys zs0 i) (hi : i < xs.length) (g : MulIn ys zs0 zs (nth xs i) i ys.length c) :
    MulOut xs ys (zs.set (i + ys.length) c) (i + 1) := by
  have hv := val_set 4294967296 zs (i + ys.length) c (by rw [g.len, h.len]; omega)
  have h0 : nth zs (i + ys.length) = 0 := by rw [g.top _ (Nat.le_refl _), h.top _ (Nat.le_refl _)]
  refine ⟨by rw [List.length_set, g.len, h.len], g.dg.set _ g.car, ?_, ?_⟩
  · have e := g.eq
    rw [val_take_ge _ (Nat.le_refl _), h.eq] at e
    rw [h0, Nat.mul_zero, Nat.add_zero] at hv
    rw [hv, e, val_take_succ, Nat.add_mul, Nat.mul_assoc]
  · intro t ht
    rw [nth_set_ne _ _ _ _ (by omega), g.top _ (by omega), h.top _ (by omega)]

set_option maxHeartbeats 1000000 in
theorem mulPlain_any {w : World} {va vb : Value} {m n : Nat} (ha : IsN w va m) (hb : IsN w vb n) (L : Nat) (hL : L ≤ 8589934592) (hm : m < P2 L) (hn : n < P2 L) :
    Calls Try.prog 127 #[va, vb] w (RetN w (m * n)) := by
  obtain ⟨xs, ha, hca, rfl⟩ := ha
  obtain ⟨ys, hb, hcb, rfl⟩ := hb
  have l1 := hca.len_P2 hm
  have l2 := hcb.len_P2 hn
  obtain ⟨ao, n, cap, b, off, rfl, hs⟩ := ha
  obtain ⟨ao2, n2, cap2, b2, off2, rfl, hs2⟩ := hb
  rw [hs.len] at l1
  rw [hs2.len] at l2
  have hle := hs.le
  have hmax := hs.max
  have hle2 := hs2.le
  have hmax2 := hs2.max
  have hda := hca.1
  have hdb := hcb.1
  clear hm hn
  go_enter Try.func127, Try.ntmps127
  go_wp2_with (first | (at_make; refine wpList_make_nums _ rfl _ _ 23 rfl 115 .u32 4 Try.underlying23 (by kernel_rfl) .i64 .i64 _ _ (n + n2) rfl rfl rfl rfl (by omega) (by omega) ?_; intro w1 hown hbel))
  go_loopw [18] (fun i wr => ∃ (k : Nat) (zs : List Nat), k ≤ n ∧ i = .int .i64 k ∧ MulOut xs ys zs k ∧ Own wr .u32 115 w.heap.size zs ∧ Below w.heap.size w wr)
    (fun i _ => n - (intOf i).toNat)
  case atStart => exact ⟨0, _, Nat.zero_le _, rfl, MulOut.zero xs ys (n + n2) (by rw [hs.len, hs2.len]), hown, hbel⟩
  case round =>
    obtain ⟨i, zs0, hi, rfl, hinv, hown0, hbel0⟩ := hrel
    clear hown hbel
    by_cases hlt : i < n
    · obtain rfl := hs.addr.resolve_right (by omega)
      have hx := hda.nth (by omega) i
      go_wp2
      obtain ⟨wo, rfl⟩ : ∃ wo : World, wo = wr := ⟨_, rfl⟩
      go_loopw [7, 23] (fun c k wr => ∃ (j cc : Nat) (zs : List Nat), j ≤ n2 ∧ k = .int .i64 j ∧ c = .int .u64 cc ∧ MulIn ys zs0 zs (nth xs i) i j cc ∧ Own wr .u32 115 w.heap.size zs ∧ Below w.heap.size w wr)
        (fun _ k _ => n2 - (intOf k).toNat)
      case atStart => exact ⟨0, 0, zs0, Nat.zero_le _, rfl, rfl, MulIn.zero hinv.dg _ _, hown0, hbel0⟩
      case round =>
        obtain ⟨j, cc, zs, hj, rfl, rfl, hin, hown1, hbel1⟩ := hrel
        have hcc := hin.car
        have HLZ : Hid (zs.length = n + n2) := by rw [hin.len, hinv.len, hs.len, hs2.len]; rfl
        by_cases hlt2 : j < n2
        · obtain rfl := hs2.addr.resolve_right (by omega)
          have hc1 : wr.cell? ⟨b, off + i, none⟩ = some (.int .u32 (nth xs i)) := by
            rw [hbel1.cell (p := ⟨b, off + i, none⟩) (hs.lt (by omega))]; exact hs.cells i hlt
          have hc2 : wr.cell? ⟨b2, off2 + j, none⟩ = some (.int .u32 (nth ys j)) := by
            rw [hbel1.cell (p := ⟨b2, off2 + j, none⟩) (hs2.lt (by omega))]; exact hs2.cells j hlt2
          have ho : wr.cell? ⟨w.heap.size, i + j, none⟩ = some (.int .u32 (nth zs (i + j))) := hown1.cell (by rw [HLZ.out]; omega)
          have hf := hown1.frozen (i + j)
          have hy := hdb.nth (by omega) j
          have hz := hin.dg.nth (by omega) (i + j)
          have hbb := mul_bdI hx hy
          obtain ⟨hb', hb0⟩ := hbb
          have HF := Lib.hid (hin.step hx hdb (by rw [hinv.len, hs.len, hs2.len]; omega))
          have e1 : IntKind.u64.wrap ((nth xs i : Int) * (nth ys j : Int)) = (nth xs i : Int) * (nth ys j : Int) := IntWalk.u64_in _ (by omega)
          have e2 : IntKind.u64.wrap ((nth xs i : Int) * (nth ys j : Int) + (nth zs (i + j) : Int)) = (nth xs i : Int) * (nth ys j : Int) + (nth zs (i + j) : Int) := IntWalk.u64_in _ (by omega)
          have e3 : IntKind.u64.wrap ((nth xs i : Int) * (nth ys j : Int) + (nth zs (i + j) : Int) + (cc : Int)) = (nth xs i : Int) * (nth ys j : Int) + (nth zs (i + j) : Int) + (cc : Int) := IntWalk.u64_in _ (by omega)
          go_wp2
          go_quiet (fail)
          go_wp2
          go_roundw
          case rel =>
            clear e1 e2 e3
            refine ⟨j + 1, _, _, by omega, by go_num, ?_, HF.out, ?_, (below_drewN' hbel1 _).setCell (Nat.le_refl _) _⟩
            · refine congrArg _ ?_; rw [← Int.natCast_mul]; omega
            · exact (hown1.drewN _).seti (i + j) _ (by rw [← Int.natCast_mul]; omega)
          case measure => simp [intOf]; omega
        · obtain rfl : j = n2 := by omega
          have ho : wr.cell? ⟨w.heap.size, i + j, none⟩ = some (.int .u32 (nth zs (i + j))) := hown1.cell (by rw [HLZ.out]; omega)
          have hf := hown1.frozen (i + j)
          have HF := Lib.hid (hinv.step (by rw [hs.len]; exact hlt) (by rw [hs2.len]; exact hin))
          go_wp2
          go_roundw
          case rel =>
            refine ⟨i + 1, _, by omega, by go_num, HF.out, ?_, hbel1.setCell (Nat.le_refl _) _⟩
            rw [hs2.len]
            exact hown1.seti (i + j) _ (by omega)
          case measure => simp [intOf]; omega
    · obtain rfl : i = n := by omega
      have hfin : val 4294967296 zs0 = val 4294967296 xs * val 4294967296 ys := by
        rw [hinv.eq, val_take_ge _ (Nat.le_of_eq hs.len)]
      have HF := Lib.hid hfin
      clear hfin
      have HL := Lib.hid hinv.len
      go_wp2_with fail
      refine (norm_any _ zs0 _ (hown0.sl (n := i + n2) (by rw [HL.out, hs.len, hs2.len]) (by omega) hinv.dg.wf32)).mono ?_
      intro e w2 hr
      obtain ⟨v, rfl, hv, hb3⟩ := hr.num hinv.dg HF.out hbel0
      go_wp2
      go_ret
      exact ⟨_, rfl, hv, hb3⟩

end Go.Proofs.Ytppbhjhbaknidaa
