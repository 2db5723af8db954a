/-
  The contract of the program's rsh: the number divided by a power of two, rounded down. Condition: sizes of at most 2^32 bits.
-/
import Derived.Test.YtppbhjhbaknidaaShift
namespace Go.Proofs.Ytppbhjhbaknidaa
open Go.RowKit

structure RshInv (ys zs : List Nat) (s i : Nat) : Prop where
  len : zs.length = i
  dg : Dg 4294967296 zs
  eq : val 4294967296 zs * P2 s + nth ys 0 % P2 s = val 4294967296 (ys.take i) + 4294967296 ^ i * (nth ys i % P2 s)

theorem RshInv.zero (ys : List Nat) (s : Nat) : RshInv ys [] s 0 := ⟨rfl, Dg.nil _, by simp [val]⟩

theorem rsh_digit {y0 y1 s : Nat} (h0 : y0 < 4294967296) (hs : s < 32) :
    ((y0 + 4294967296 * y1) / P2 s % 4294967296) * P2 s + y0 % P2 s = y0 + 4294967296 * (y1 % P2 s) := by
  have e : 4294967296 = P2 s * P2 (32 - s) := by rw [← P2_add, show s + (32 - s) = 32 by omega]; rfl
  have hp := P2_pos s
  have hq := P2_pos (32 - s)
  generalize P2 s = p at *
  generalize P2 (32 - s) = q at *
  have e1 : (y0 + 4294967296 * y1) / p = y0 / p + q * y1 := by
    rw [e, Nat.mul_assoc, Nat.add_mul_div_left _ _ hp]
  have h2 : y0 / p < q := by rw [Nat.div_lt_iff_lt_mul hp, Nat.mul_comm, ← e]; exact h0
  have e2 : (y0 / p + q * y1) % 4294967296 = y0 / p + q * (y1 % p) := by
    have d := Nat.mod_add_div y1 p
    have e3 : y0 / p + q * y1 = y0 / p + q * (y1 % p) + 4294967296 * (y1 / p) := by
      rw [e]
      have : q * y1 = q * (y1 % p) + p * q * (y1 / p) := by
        conv => lhs; rw [← d]
        rw [Nat.mul_add]; simp only [Nat.mul_comm, Nat.mul_left_comm]
      omega
    rw [e3, Nat.add_mul_mod_self_left]
    apply Nat.mod_eq_of_lt
    have h3 : y1 % p + 1 ≤ p := Nat.mod_lt _ hp
    have h4 := Nat.mul_le_mul_left q h3
    rw [Nat.mul_add, Nat.mul_comm q p, ← e] at h4
    omega
  rw [e1, e2, Nat.add_mul]
  have e5 := Nat.mod_add_div y0 p
  have e6 : q * (y1 % p) * p = 4294967296 * (y1 % p) := by rw [e]; simp only [Nat.mul_comm, Nat.mul_left_comm]
  rw [e6]
  have e7 : y0 / p * p = p * (y0 / p) := Nat.mul_comm _ _
  omega

theorem RshInv.step {ys zs : List Nat} {s i : Nat} (h : RshInv ys zs s i) (hy : Dg 4294967296 ys) (hs : s < 32) :
    RshInv ys (zs ++ [(nth ys i + 4294967296 * nth ys (i + 1)) / P2 s % 4294967296]) s (i + 1) := by
  have h0 := hy.nth (by omega) i
  refine ⟨by rw [List.length_append, h.len]; rfl, h.dg.snoc (Nat.mod_lt _ (by omega)), ?_⟩
  have e := rsh_digit (y1 := nth ys (i + 1)) h0 hs
  rw [val_snoc, h.len, val_take_succ, Nat.pow_succ]
  have e2 := h.eq
  generalize (nth ys i + 4294967296 * nth ys (i + 1)) / P2 s % 4294967296 = z at *
  generalize 4294967296 ^ i = p at *
  have e3 : p * (z * P2 s) + p * (nth ys i % P2 s) = p * nth ys i + p * (4294967296 * (nth ys (i + 1) % P2 s)) := by
    rw [← Nat.mul_add, e, Nat.mul_add]
  rw [Nat.add_mul, Nat.mul_assoc p, Nat.mul_assoc p]
  omega

theorem RshInv.done {ys zs : List Nat} {s i : Nat} (h : RshInv ys zs s i) (hi : ys.length ≤ i) : val 4294967296 zs = val 4294967296 ys / P2 s := by
  have e := h.eq
  rw [val_take_ge _ hi, nth_ge hi, Nat.zero_mod, Nat.mul_zero, Nat.add_zero] at e
  rw [← e, Nat.mul_comm, Nat.mul_add_div (P2_pos s), Nat.div_eq_of_lt (Nat.mod_lt _ (P2_pos s)), Nat.add_zero]

theorem or64 {x y : Nat} (hx : x < 4294967296) (hy : y < 4294967296) : bits .or .u64 (x : Int) ((y : Int) * 4294967296) = ((x + 4294967296 * y : Nat) : Int) := by
  rw [show (y : Int) * 4294967296 = ((4294967296 * y : Nat) : Int) by omega, u64_or_nat _ _ (by omega) (by omega), Nat.or_comm]
  have := Nat.two_pow_add_eq_or_of_lt (i := 32) (b := x) hx y
  rw [show (2 : Nat) ^ 32 = 4294967296 from rfl] at this
  rw [← this, Nat.add_comm]

theorem shr_nat (z s : Nat) : (z : Int) / 2 ^ s % 4294967296 = ((z / P2 s % 4294967296 : Nat) : Int) := by
  unfold P2
  simp

theorem val_drop_div {xs : List Nat} (h : Dg 4294967296 xs) (k : Nat) (hk : k ≤ xs.length) : val 4294967296 (xs.drop k) = val 4294967296 xs / P2 (32 * k) := by
  have e := val_take_drop 4294967296 xs k hk
  have b := val_lt (h.take k)
  rw [List.length_take, Nat.min_eq_left hk, P2_32] at b
  rw [P2_32] at e
  rw [e, Nat.add_comm, Nat.mul_add_div (P2_pos _), Nat.div_eq_of_lt b, Nat.add_zero]

set_option maxHeartbeats 1000000 in
theorem rsh_any {w : World} {v : Value} {m : Nat} (ha : IsN w v m) (S : Int) (hS0 : 0 ≤ S) (hS : S ≤ 4294967296) (L : Nat) (hL : L ≤ 8589934592) (hm : m < P2 L) :
    Calls Try.prog 123 #[v, .int .i64 S] w (RetN w (m / P2 S.toNat)) := by
  obtain ⟨S, rfl⟩ := Int.eq_ofNat_of_zero_le hS0
  rw [Int.toNat_natCast]
  obtain ⟨xs, ha, hca, rfl⟩ := ha
  have l1 := hca.len_P2 hm
  obtain ⟨ao, n, cap, b, off, rfl, hs⟩ := ha
  rw [hs.len] at l1
  have hnb : n ≤ 300000000 := by omega
  have hle := hs.le
  have hmax := hs.max
  have hda := hca.1
  clear hm
  obtain ⟨k, hk⟩ : ∃ k, k = S / 32 := ⟨_, rfl⟩
  obtain ⟨s, hsq⟩ : ∃ s, s = S % 32 := ⟨_, rfl⟩
  have hs32 : s < 32 := by omega
  have hkb : k ≤ 134217728 := by omega
  have HS : Hid (S = 32 * k + s) := show S = 32 * k + s by omega
  rw [HS.out]
  clear hk hsq hS hS0 HS S
  by_cases h0 : n ≤ k
  · have hz : val 4294967296 xs / P2 (32 * k + s) = 0 := by
      apply Nat.div_eq_of_lt
      have := val_lt hda
      rw [P2_32, hs.len] at this
      exact lt_P2_mono this (by omega)
    rw [hz]
    clear hz
    go_enter Try.func123, Try.ntmps123
    go_wp2
    go_ret
    exact ⟨_, rfl, IsN.zero _, Below.refl _ _⟩
  · obtain rfl := hs.addr.resolve_right (by omega)
    obtain ⟨m, hm⟩ : ∃ m, m = n - k := ⟨_, rfl⟩
    have hmn : k + m = n := by omega
    have HM := Lib.hid hm
    have hys : (xs.drop k).length = m := by rw [List.length_drop, hs.len, hm]
    have hnth : ∀ i, nth (xs.drop k) i = nth xs (k + i) := fun i => nth_drop xs k i
    have hdy := hda.drop k
    have hfin : val 4294967296 (xs.drop k) / P2 s = val 4294967296 xs / P2 (32 * k + s) := by
      rw [val_drop_div hda k (by rw [hs.len]; omega), Nat.div_div_eq_div_mul, ← P2_add]
    have HF := Lib.hid hfin
    have HY := Lib.hid hys
    have HN := Lib.hid hnth
    clear hfin hys hnth hm
    generalize xs.drop k = ys at *
    go_enter Try.func123, Try.ntmps123
    go_wp2_with (first | (at_make; rw [show (32 * (k : Int) + s) / 32 = (k : Int) by omega, show (32 * (k : Int) + s) % 32 = (s : Int) by omega, show (s : Int) % 32 = (s : Int) by omega]; refine wpList_make_nums _ rfl _ _ 23 rfl 115 .u32 4 Try.underlying23 (by kernel_rfl) .i64 .i64 _ _ m rfl rfl (by omega) (by omega) (by omega) (by omega) ?_; intro w1 hown hbel))
    go_loopw [26] (fun i wr => ∃ (j : Nat) (zs : List Nat), j ≤ m ∧ i = .int .i64 j ∧ RshInv ys zs s j ∧ Own wr .u32 115 w.heap.size (zs ++ List.replicate (m - j) 0) ∧ Below w.heap.size w wr)
      (fun i _ => m - (intOf i).toNat)
    case atStart => exact ⟨0, [], Nat.zero_le _, rfl, RshInv.zero _ _, by simpa using hown, hbel⟩
    case round =>
      obtain ⟨j, zs, hj, rfl, hinv, hown1, hbel1⟩ := hrel
      clear hown hbel
      by_cases hlt : j < m
      · have hc1 : wr.cell? ⟨b, off + (j + k), none⟩ = some (.int .u32 (nth ys j)) := by
          rw [hbel1.cell (p := ⟨b, off + (j + k), none⟩) (hs.lt (by omega)), hs.cells (j + k) (by omega), HN.out, Nat.add_comm]
        have ho : wr.cell? ⟨w.heap.size, j, none⟩ = some (.int .u32 (nth (zs ++ List.replicate (m - j) 0) j)) := hown1.cell (by rw [List.length_append, hinv.len, List.length_replicate]; omega)
        have hf := hown1.frozen j
        have hx := hdy.nth (by omega) j
        have hy := hdy.nth (by omega) (j + 1)
        have HS := Lib.hid (hinv.step hdy hs32)
        by_cases hlt2 : j + 1 < m
        · have hc2 : wr.cell? ⟨b, off + (j + k + 1), none⟩ = some (.int .u32 (nth ys (j + 1))) := by
            rw [hbel1.cell (p := ⟨b, off + (j + k + 1), none⟩) (hs.lt (by omega)), hs.cells (j + k + 1) (by omega), HN.out, show k + (j + 1) = j + k + 1 by omega]
          have HO := Lib.hid (or64 hx hy)
          go_wp2
          rw [HO.out]
          go_roundw
          case rel =>
            refine ⟨j + 1, _, by omega, by go_num, HS.out, ?_, hbel1.setCell (Nat.le_refl _) _⟩
            rw [← set_zeros zs j m _ hinv.len hlt]
            exact hown1.seti j _ (shr_nat _ _)
          case measure => simp [intOf]; omega
        · have h0y : nth ys (j + 1) = 0 := nth_ge (by rw [HY.out]; omega)
          rw [h0y] at HS
          clear h0y
          go_wp2
          go_roundw
          case rel =>
            refine ⟨j + 1, _, by omega, by go_num, HS.out, ?_, hbel1.setCell (Nat.le_refl _) _⟩
            rw [← set_zeros zs j m _ hinv.len hlt]
            exact hown1.seti j _ (shr_nat _ _)
          case measure => simp [intOf]; omega
      · obtain rfl : j = m := by omega
        rw [Nat.sub_self, List.replicate_zero, List.append_nil] at hown1
        have HV := Lib.hid (hinv.done (by rw [HY.out]; exact Nat.le_refl _))
        have HL := Lib.hid hinv.len
        go_wp2_with fail
        refine (norm_any _ zs _ (hown1.sl HL.out (by omega) hinv.dg.wf32)).mono ?_
        intro e w2 hr
        obtain ⟨v, rfl, hv, hb3⟩ := hr.num hinv.dg (HV.out.trans HF.out) hbel1
        go_wp2
        go_ret
        exact ⟨_, rfl, hv, hb3⟩
end Go.Proofs.Ytppbhjhbaknidaa
