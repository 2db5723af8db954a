/-
  The contracts of the program's lsh and rsh: the number times, and divided by, a power of two. Condition: sizes of at most 2^32 bits.
-/
import Derived.Test.YtppbhjhbaknidaaBits
namespace Go.Proofs.Ytppbhjhbaknidaa
open Go.RowKit

structure LshInv (xs zs : List Nat) (N k s i : Nat) : Prop where
  len : zs.length = N
  dg : Dg 4294967296 zs
  eq : val 4294967296 zs = val 4294967296 (xs.take i) * P2 s * 4294967296 ^ k
  low : nth zs (i + k) < P2 s
  top : ∀ t, i + k < t → nth zs t = 0

theorem LshInv.zero (xs : List Nat) (N k s : Nat) : LshInv xs (List.replicate N 0) N k s 0 :=
  ⟨by simp, Dg.zeros (by omega) _, by simp [val_zeros, val], by rw [nth_zeros]; exact P2_pos s, fun t _ => nth_zeros N t⟩

/-- The low half of a shifted word and what came over: their 'or' is their sum. -/
theorem or_sum {x s d : Nat} (hs : s < 32) (hd : d < P2 s) : (x * P2 s) % 4294967296 ||| d = (x * P2 s) % 4294967296 + d ∧ (x * P2 s) % 4294967296 + d < 4294967296 := by
  have e : 4294967296 = P2 s * P2 (32 - s) := by rw [← P2_add, show s + (32 - s) = 32 by omega]; rfl
  have h : (x * P2 s) % 4294967296 = P2 s * (x % P2 (32 - s)) := by
    rw [e, Nat.mul_comm x, Nat.mul_mod_mul_left]
  rw [h]
  have hlt : x % P2 (32 - s) < P2 (32 - s) := Nat.mod_lt _ (P2_pos _)
  constructor
  · unfold P2 at hd ⊢
    exact (Nat.two_pow_add_eq_or_of_lt hd _).symm
  · rw [e]
    have := Nat.mul_le_mul_left (P2 s) (show x % P2 (32 - s) + 1 ≤ P2 (32 - s) from hlt)
    rw [Nat.mul_add] at this
    omega

theorem LshInv.step {xs zs : List Nat} {N k s i : Nat} (h : LshInv xs zs N k s i) (ha : Dg 4294967296 xs) (hs : s < 32) (hi : i + k + 1 < N) :
    LshInv xs ((zs.set (i + k) ((nth xs i * P2 s) % 4294967296 ||| nth zs (i + k))).set (i + k + 1) ((nth xs i * P2 s) / 4294967296)) N k s (i + 1) := by
  have hx := ha.nth (by omega) i
  obtain ⟨o1, o2⟩ := or_sum (x := nth xs i) hs h.low
  rw [o1]
  have hlt : (nth xs i * P2 s) / 4294967296 < P2 s := by
    rw [Nat.div_lt_iff_lt_mul (by omega), Nat.mul_comm]
    exact Nat.mul_lt_mul_of_pos_left hx (P2_pos s)
  have hlt2 : (nth xs i * P2 s) / 4294967296 < 4294967296 := by
    have : P2 s ≤ P2 32 := P2_mono (by omega)
    have e : P2 32 = 4294967296 := rfl
    omega
  have hv1 := val_set 4294967296 zs (i + k) ((nth xs i * P2 s) % 4294967296 + nth zs (i + k)) (by rw [h.len]; omega)
  have hv2 := val_set 4294967296 (zs.set (i + k) ((nth xs i * P2 s) % 4294967296 + nth zs (i + k))) (i + k + 1) ((nth xs i * P2 s) / 4294967296) (by rw [List.length_set, h.len]; omega)
  rw [nth_set_ne _ _ _ _ (by omega), h.top (i + k + 1) (by omega), Nat.mul_zero, Nat.add_zero] at hv2
  refine ⟨by rw [List.length_set, List.length_set, h.len], (h.dg.set _ o2).set _ hlt2, ?_, ?_, ?_⟩
  · rw [hv2, val_take_succ, Nat.add_mul, Nat.add_mul, ← h.eq, Nat.pow_succ 4294967296 (i + k)]
    have e3 : 4294967296 ^ i * nth xs i * P2 s * 4294967296 ^ k = 4294967296 ^ (i + k) * (nth xs i * P2 s) := by
      rw [Nat.pow_add]; simp only [Nat.mul_assoc, Nat.mul_comm, Nat.mul_left_comm]
    rw [e3]
    have e4 := Nat.mod_add_div (nth xs i * P2 s) 4294967296
    generalize nth xs i * P2 s = x at *
    generalize 4294967296 ^ (i + k) = p at *
    have e5 : p * (x % 4294967296) + p * (4294967296 * (x / 4294967296)) = p * x := by rw [← Nat.mul_add, e4]
    rw [Nat.mul_add] at hv1
    rw [Nat.mul_assoc]
    omega
  · rw [show i + 1 + k = i + k + 1 by omega, nth_set_eq _ _ _ (by rw [List.length_set, h.len]; exact hi)]
    exact hlt
  · intro t ht
    rw [nth_set_ne _ _ _ _ (by omega), nth_set_ne _ _ _ _ (by omega), h.top _ (by omega)]

theorem shl_lt {x s : Nat} (hx : x < 4294967296) (hs : s < 32) : x * P2 s < 18446744073709551616 := by
  have h1 : P2 s ≤ P2 32 := P2_mono (by omega)
  have h2 : x * P2 s ≤ 4294967295 * P2 32 := Nat.mul_le_mul (by omega) h1
  have e : P2 32 = 4294967296 := rfl
  omega

theorem shl_nat {x s : Nat} (hx : x < 4294967296) (hs : s < 32) : IntKind.u64.wrap ((x : Int) * 2 ^ (s % 32)) = ((x * P2 s : Nat) : Int) := by
  have h := shl_lt hx hs
  have e : (x : Int) * 2 ^ (s % 32) = ((x * P2 s : Nat) : Int) := by
    rw [Nat.mod_eq_of_lt hs, Int.natCast_mul]
    unfold P2
    rw [Int.natCast_pow]; rfl
  rw [e, wrap_u64]
  omega

theorem or32 {a y : Nat} (ha : a < 4294967296) : bits .or .u32 (a : Int) ((y : Int) % 4294967296) = ((y % 4294967296 ||| a : Nat) : Int) := by
  rw [show (y : Int) % 4294967296 = ((y % 4294967296 : Nat) : Int) by omega, u32_or_nat _ _ ha (Nat.mod_lt _ (by omega)), Nat.or_comm]

set_option maxHeartbeats 1000000 in
theorem lsh_any {w : World} {v : Value} {m : Nat} (ha : IsN w v m) (S : Int) (hS0 : 0 ≤ S) (hS : S ≤ 4294967296) (L : Nat) (hL : L ≤ 8589934592) (hm : m < P2 L) :
    Calls Try.prog 122 #[v, .int .i64 S] w (RetN w (m * P2 S.toNat)) := by
  obtain ⟨S, rfl⟩ := Int.eq_ofNat_of_zero_le hS0
  rw [Int.toNat_natCast]
  obtain ⟨xs, ha, hca, rfl⟩ := ha
  have l1 := hca.len_P2 hm
  obtain ⟨ao, n, cap, b, off, rfl, hs⟩ := ha
  rw [hs.len] at l1
  have hnb : n ≤ 300000000 := by omega
  have hle := hs.le
  have hmax := hs.max
  have hda := hca.1
  clear hm
  by_cases h0 : n = 0
  · have hx : xs = [] := List.eq_nil_of_length_eq_zero (by rw [hs.len, h0])
    subst hx
    have hb : ((n : Int) == 0) = true := by simp [h0]
    rw [show val 4294967296 [] = 0 from rfl, Nat.zero_mul]
    go_enter Try.func122, Try.ntmps122
    go_wp2
    go_ret
    exact ⟨_, rfl, IsN.zero _, Below.refl _ _⟩
  · have hb : ((n : Int) == 0) = false := by simp [h0]
    obtain rfl := hs.addr.resolve_right (by omega)
    obtain ⟨k, hk⟩ : ∃ k, k = S / 32 := ⟨_, rfl⟩
    obtain ⟨s, hsq⟩ : ∃ s, s = S % 32 := ⟨_, rfl⟩
    have hs32 : s < 32 := by omega
    have hkb : k ≤ 134217728 := by omega
    have HS : Hid (S = 32 * k + s) := show S = 32 * k + s by omega
    rw [HS.out]
    clear hk hsq hS hS0 HS S
    go_enter Try.func122, Try.ntmps122
    go_wp2_with (first | (at_make; rw [show (32 * (k : Int) + s) / 32 = (k : Int) by omega, show (32 * (k : Int) + s) % 32 = (s : Int) by omega]; refine wpList_make_nums _ rfl _ _ 23 rfl 115 .u32 4 Try.underlying23 (by kernel_rfl) .i64 .i64 _ _ (n + k + 1) rfl rfl (by omega) (by omega) (by omega) (by omega) ?_; intro w1 hown hbel))
    go_loopw [26] (fun i wr => ∃ (j : Nat) (zs : List Nat), j ≤ n ∧ i = .int .i64 j ∧ LshInv xs zs (n + k + 1) k s j ∧ Own wr .u32 115 w.heap.size zs ∧ Below w.heap.size w wr)
      (fun i _ => n - (intOf i).toNat)
    case atStart => exact ⟨0, _, Nat.zero_le _, rfl, LshInv.zero xs _ k s, hown, hbel⟩
    case round =>
      obtain ⟨j, zs, hj, rfl, hinv, hown1, hbel1⟩ := hrel
      clear hown hbel
      by_cases hlt : j < n
      · have hc1 : wr.cell? ⟨b, off + j, none⟩ = some (.int .u32 (nth xs j)) := by
          rw [hbel1.cell (p := ⟨b, off + j, none⟩) (hs.lt (by omega))]; exact hs.cells j hlt
        have HLZ := Lib.hid hinv.len
        have ho : wr.cell? ⟨w.heap.size, j + k, none⟩ = some (.int .u32 (nth zs (j + k))) := hown1.cell (by rw [HLZ.out]; omega)
        have hf := hown1.frozen (j + k)
        have ho2 : wr.cell? ⟨w.heap.size, j + k + 1, none⟩ = some (.int .u32 (nth zs (j + k + 1))) := hown1.cell (by rw [HLZ.out]; omega)
        have hf2 := hown1.frozen (j + k + 1)
        have hx := hda.nth (by omega) j
        have HF := Lib.hid (hinv.step hda hs32 (by omega))
        have hz := hinv.dg.nth (by omega) (j + k)
        have HX := Lib.hid (shl_nat hx hs32)
        have HO := Lib.hid (or32 (y := nth xs j * P2 s) hz)
        have hsl := shl_lt hx hs32
        go_wp2
        rw [HX.out, HO.out]
        go_roundw
        case rel =>
          refine ⟨j + 1, _, by omega, by go_num, HF.out, ?_, (hbel1.setCell (Nat.le_refl _) _).setCell (Nat.le_refl _) _⟩
          exact (hown1.seti (j + k) _ rfl).seti (j + k + 1) _ (by omega)
        case measure => simp [intOf]; omega
      · obtain rfl : j = n := by omega
        have hfin : val 4294967296 zs = val 4294967296 xs * P2 (32 * k + s) := by
          rw [hinv.eq, val_take_ge _ (Nat.le_of_eq hs.len), P2_32, Nat.mul_assoc, ← P2_add, Nat.add_comm s]
        have HF := Lib.hid hfin
        clear hfin
        have HL := Lib.hid hinv.len
        go_wp2_with fail
        refine (norm_any _ zs _ (hown1.sl (n := j + k + 1) HL.out (by omega) hinv.dg.wf32)).mono ?_
        intro e w2 hr
        obtain ⟨v, rfl, hv, hb3⟩ := hr.num hinv.dg HF.out hbel1
        go_wp2
        go_ret
        exact ⟨_, rfl, hv, hb3⟩
end Go.Proofs.Ytppbhjhbaknidaa
