/-
  The contract of the program's sub: the difference. Conditions: the second number is at most the first; numbers of at most 2^33 bits.
-/
import Derived.Test.YtppbhjhbaknidaaNum
set_option linter.unusedVariables false
set_option linter.unusedSimpArgs false
namespace Go.Proofs.Ytppbhjhbaknidaa
open Go.RowKit

/-- Behind k places: the digits that are written, and what was borrowed. -/
structure SubInv (xs ys zs : List Nat) (k c : Nat) : Prop where
  len : zs.length = k
  dg : Dg 4294967296 zs
  car : c ≤ 1
  eq : val 4294967296 zs + val 4294967296 (ys.take k) = val 4294967296 (xs.take k) + 4294967296 ^ k * c

theorem SubInv.zero (xs ys : List Nat) : SubInv xs ys [] 0 0 := ⟨rfl, Dg.nil _, by omega, by simp [val]⟩

/-- What the difference at a place wraps to. -/
def subW (x c y : Nat) : Nat := if c + y ≤ x then x - c - y else x + 18446744073709551616 - c - y

theorem subW_wrap {x c y : Nat} (hx : x < 4294967296) (hc : c ≤ 1) (hy : y < 4294967296) : IntKind.u64.wrap (IntKind.u64.wrap ((x : Int) - c) - y) = (subW x c y : Int) := by
  rw [wrap_u64, wrap_u64]
  unfold subW
  split <;> omega
theorem subW_wrap0 {x c : Nat} (hx : x < 4294967296) (hc : c ≤ 1) : IntKind.u64.wrap ((x : Int) - c) = (subW x c 0 : Int) := by
  rw [wrap_u64]
  unfold subW
  split <;> omega

theorem SubInv.step {xs ys zs : List Nat} {k c : Nat} (h : SubInv xs ys zs k c) (ha : Dg 4294967296 xs) (hb : Dg 4294967296 ys) :
    SubInv xs ys (zs ++ [subW (nth xs k) c (nth ys k) % 4294967296]) (k + 1) (subW (nth xs k) c (nth ys k) / 9223372036854775808) := by
  have h1 := ha.nth (by omega) k
  have h2 := hb.nth (by omega) k
  have h3 := h.car
  generalize hx : nth xs k = x at *
  generalize hy : nth ys k = y at *
  have hcase : (c + y ≤ x ∧ subW x c y % 4294967296 = x - c - y ∧ subW x c y / 9223372036854775808 = 0) ∨ (x < c + y ∧ subW x c y % 4294967296 = x + 4294967296 - c - y ∧ subW x c y / 9223372036854775808 = 1) := by
    unfold subW
    split
    · left; omega
    · right; omega
  refine ⟨by rw [List.length_append, h.len]; rfl, h.dg.snoc (Nat.mod_lt _ (by omega)), by omega, ?_⟩
  rw [val_snoc, h.len, val_take_succ, val_take_succ, hx, hy]
  have e := h.eq
  rw [Nat.pow_succ]
  generalize 4294967296 ^ k = p at *
  rcases hcase with ⟨g0, g1, g2⟩ | ⟨g0, g1, g2⟩
  · rw [g1, g2]
    have : p * x = p * (x - c - y) + p * c + p * y := by rw [← Nat.mul_add, ← Nat.mul_add]; congr 1; omega
    omega
  · rw [g1, g2]
    have : p * x + p * 4294967296 = p * (x + 4294967296 - c - y) + p * c + p * y := by rw [← Nat.mul_add, ← Nat.mul_add, ← Nat.mul_add]; congr 1; omega
    omega

theorem SubInv.done {xs ys zs : List Nat} {k c : Nat} (h : SubInv xs ys zs k c) (ha : Dg 4294967296 xs) (hx : xs.length = k) (hy : ys.length ≤ k) (hle : val 4294967296 ys ≤ val 4294967296 xs) :
    val 4294967296 zs = val 4294967296 xs - val 4294967296 ys := by
  have e := h.eq
  rw [val_take_ge _ (Nat.le_of_eq hx), val_take_ge _ hy] at e
  have h1 := val_lt h.dg
  have h2 := val_lt ha
  rw [h.len] at h1
  rw [hx] at h2
  have := h.car
  by_cases hc : c = 0
  · subst hc; omega
  · have : c = 1 := by omega
    subst this
    omega

set_option maxHeartbeats 1000000 in
theorem sub_any {w : World} {va vb : Value} {m n : Nat} (ha : IsN w va m) (hb : IsN w vb n) (L : Nat) (hL : L ≤ 8589934592) (hm : m < P2 L) (hmn : n ≤ m) :
    Calls Try.prog 112 #[va, vb] w (RetN w (m - n)) := by
  obtain ⟨xs, ha, hca, rfl⟩ := ha
  obtain ⟨ys, hb, hcb, rfl⟩ := hb
  have l1 := hca.len_P2 hm
  have l2 : ys.length ≤ xs.length := hcb.len_le (by omega) (Nat.lt_of_le_of_lt hmn (val_lt hca.1))
  obtain ⟨ao, n, cap, b, off, rfl, hs⟩ := ha
  obtain ⟨ao2, n2, cap2, b2, off2, rfl, hs2⟩ := hb
  rw [hs.len] at l1 l2
  rw [hs2.len] at l2
  have hle := hs.le
  have hmax := hs.max
  have hle2 := hs2.le
  have hmax2 := hs2.max
  have HM := Lib.hid hmn
  have hda := hca.1
  have hdb := hcb.1
  clear hm hmn
  go_enter Try.func112, Try.ntmps112
  go_wp2_with (first | (at_make; refine wpList_make_nums _ rfl _ _ 23 rfl 115 .u32 4 Try.underlying23 (by kernel_rfl) .i64 .i64 _ _ n rfl rfl rfl rfl (by omega) (by omega) ?_; intro w1 hown hbel))
  go_loopw [6, 14] (fun c i wr => ∃ (k cc : Nat) (zs : List Nat), k ≤ n ∧ i = .int .i64 k ∧ c = .int .u64 cc ∧ SubInv xs ys zs k cc ∧ Own wr .u32 115 w.heap.size (zs ++ List.replicate (n - k) 0) ∧ Below w.heap.size w wr)
    (fun _ i _ => n - (intOf i).toNat)
  case atStart => exact ⟨0, 0, [], Nat.zero_le _, rfl, rfl, SubInv.zero _ _, by simpa using hown, hbel⟩
  case round =>
    obtain ⟨k, cc, zs, hk, rfl, rfl, hinv, hown1, hbel1⟩ := hrel
    clear hown hbel
    have hcc := hinv.car
    by_cases hlt : k < n
    · have ho : wr.cell? ⟨w.heap.size, k, none⟩ = some (.int .u32 (nth (zs ++ List.replicate (n - k) 0) k)) := hown1.cell (by rw [List.length_append, hinv.len, List.length_replicate]; omega)
      have hf := hown1.frozen k
      obtain rfl := hs.addr.resolve_right (by omega)
      have hc1 : wr.cell? ⟨b, off + k, none⟩ = some (.int .u32 (nth xs k)) := by
        rw [hbel1.cell (p := ⟨b, off + k, none⟩) (hs.lt (by omega))]; exact hs.cells k hlt
      have hx := hda.nth (by omega) k
      have hy := hdb.nth (by omega) k
      have HF := Lib.hid (hinv.step hda hdb)
      by_cases hlt2 : k < n2
      · obtain rfl := hs2.addr.resolve_right (by omega)
        have hc2 : wr.cell? ⟨b2, off2 + k, none⟩ = some (.int .u32 (nth ys k)) := by
          rw [hbel1.cell (p := ⟨b2, off2 + k, none⟩) (hs2.lt (by omega))]; exact hs2.cells k hlt2
        have HW := Lib.hid (subW_wrap hx hcc hy)
        go_wp2
        rw [HW.out]
        go_roundw
        case rel =>
          refine ⟨k + 1, _, _, by omega, by go_num, ?_, HF.out, ?_, hbel1.setCell (Nat.le_refl _) _⟩
          · refine congrArg _ ?_; omega
          · rw [← set_zeros zs k n _ hinv.len (by omega)]
            exact hown1.seti k _ (by omega)
        case measure => simp [intOf]; omega
      · have HY : Hid (nth ys k = 0) := nth_ge (by rw [hs2.len]; omega)
        have HW := Lib.hid (subW_wrap0 hx hcc)
        go_wp2
        rw [HW.out]
        go_roundw
        case rel =>
          refine ⟨k + 1, _, _, by omega, by go_num, ?_, HF.out, ?_, hbel1.setCell (Nat.le_refl _) _⟩
          · refine congrArg _ ?_; rw [HY.out]; omega
          · rw [← set_zeros zs k n _ hinv.len (by omega)]
            exact hown1.seti k _ (by rw [HY.out]; omega)
        case measure => simp [intOf]; omega
    · obtain rfl : k = n := by omega
      rw [Nat.sub_self, List.replicate_zero, List.append_nil] at hown1
      have hfin := hinv.done hda hs.len (by rw [hs2.len]; omega) HM.out
      have HF := Lib.hid hfin
      clear hfin
      have HL := Lib.hid hinv.len
      go_wp2_with fail
      refine (norm_any _ zs _ (hown1.sl HL.out (by omega) hinv.dg.wf32)).mono ?_
      intro e w2 hr
      obtain ⟨v, rfl, hv, hb3⟩ := hr.num hinv.dg HF.out hbel1
      go_wp2
      go_ret
      exact ⟨_, rfl, hv, hb3⟩

end Go.Proofs.Ytppbhjhbaknidaa
