/-
  The contract of the program's add: the sum. Condition: numbers of at most 2^33 bits.
-/
import Derived.Test.YtppbhjhbaknidaaNum
namespace Go.Proofs.Ytppbhjhbaknidaa
open Go.RowKit

/-- Behind k places: the digits that are written, and the carry. -/
structure AddInv (xs ys zs : List Nat) (k c : Nat) : Prop where
  len : zs.length = k
  dg : Dg 4294967296 zs
  car : c ≤ 1
  eq : val 4294967296 zs + 4294967296 ^ k * c = val 4294967296 (xs.take k) + val 4294967296 (ys.take k)

theorem AddInv.zero (xs ys : List Nat) : AddInv xs ys [] 0 0 := ⟨rfl, Dg.nil _, by omega, by simp [val]⟩

theorem AddInv.step {xs ys zs : List Nat} {k c : Nat} (h : AddInv xs ys zs k c) (ha : Dg 4294967296 xs) (hb : Dg 4294967296 ys) (s : Nat) (hs : s = nth xs k + c + nth ys k) :
    AddInv xs ys (zs ++ [s % 4294967296]) (k + 1) (s / 4294967296) := by
  have h1 := ha.nth (by omega) k
  have h2 := hb.nth (by omega) k
  have h3 := h.car
  refine ⟨by rw [List.length_append, h.len]; rfl, h.dg.snoc (Nat.mod_lt _ (by omega)), by omega, ?_⟩
  rw [val_snoc, h.len, val_take_succ, val_take_succ]
  have e := h.eq
  have e1 : 4294967296 ^ (k + 1) * (s / 4294967296) = 4294967296 ^ k * (4294967296 * (s / 4294967296)) := by rw [Nat.pow_succ, Nat.mul_assoc]
  rw [e1]
  generalize 4294967296 ^ k = p at *
  have e2 : p * (s % 4294967296) + p * (4294967296 * (s / 4294967296)) = p * nth xs k + p * c + p * nth ys k := by
    rw [← Nat.mul_add, Nat.mod_add_div, hs, Nat.mul_add, Nat.mul_add]
  omega

theorem AddInv.done {xs ys zs : List Nat} {k c : Nat} (h : AddInv xs ys zs k c) (hx : xs.length ≤ k) (hy : ys.length ≤ k) :
    Dg 4294967296 (zs ++ [c]) ∧ val 4294967296 (zs ++ [c]) = val 4294967296 xs + val 4294967296 ys := by
  have := h.car
  refine ⟨h.dg.snoc (by omega), ?_⟩
  rw [val_snoc, h.len, h.eq, val_take_ge _ hx, val_take_ge _ hy]

set_option maxHeartbeats 1000000 in
theorem add_core (sw : Bool) (va vb : Value) (xs ys : List Nat) (w : World) (ha : Sl w .u32 va xs) (hb : Sl w .u32 vb ys) (hda : Dg 4294967296 xs) (hdb : Dg 4294967296 ys)
    (hsw : sw = true → ys.length < xs.length) (hab : ys.length ≤ xs.length) (hla : xs.length ≤ 1073741824) :
    Calls Try.prog 99 (if sw then #[vb, va] else #[va, vb]) w (RetN w (val 4294967296 xs + val 4294967296 ys)) := by
  obtain ⟨ao, n, cap, b, off, rfl, hs⟩ := ha
  obtain ⟨ao2, n2, cap2, b2, off2, rfl, hs2⟩ := hb
  have hle := hs.le
  have hmax := hs.max
  have hle2 := hs2.le
  have hmax2 := hs2.max
  have hn : n2 ≤ n := by rw [← hs.len, ← hs2.len]; exact hab
  have hn' : n ≤ 1073741824 := by rw [← hs.len]; exact hla
  rw [hs.len, hs2.len] at hsw
  clear hab hla
  cases sw
  case' true => have hlt0 := hsw rfl
  all_goals
    clear hsw
    simp only [Bool.false_eq_true, if_false, if_true]
    go_enter Try.func99, Try.ntmps99
    go_wp2_with (first | (at_make; refine wpList_make_nums _ rfl _ _ 23 rfl 115 .u32 4 Try.underlying23 (by kernel_rfl) .i64 .i64 _ _ (n + 1) rfl rfl rfl rfl (by omega) (by omega) ?_; intro w1 hown hbel))
    go_loopw [6, 22] (fun c i wr => ∃ (k cc : Nat) (zs : List Nat), k ≤ n ∧ i = .int .i64 k ∧ c = .int .u64 cc ∧ AddInv xs ys zs k cc ∧ Own wr .u32 115 w.heap.size (zs ++ List.replicate (n + 1 - k) 0) ∧ Below w.heap.size w wr)
      (fun _ i _ => n - (intOf i).toNat)
    case atStart => exact ⟨0, 0, [], Nat.zero_le _, rfl, rfl, AddInv.zero _ _, by simpa using hown, hbel⟩
    case round =>
      obtain ⟨k, cc, zs, hk, rfl, rfl, hinv, hown1, hbel1⟩ := hrel
      clear hown hbel
      have hcc := hinv.car
      have ho : wr.cell? ⟨w.heap.size, k, none⟩ = some (.int .u32 (nth (zs ++ List.replicate (n + 1 - k) 0) k)) := hown1.cell (by rw [List.length_append, hinv.len, List.length_replicate]; omega)
      have hf := hown1.frozen k
      by_cases hlt : k < n
      · obtain rfl := hs.addr.resolve_right (by omega)
        have hc1 : wr.cell? ⟨b, off + k, none⟩ = some (.int .u32 (nth xs k)) := by
          rw [hbel1.cell (p := ⟨b, off + k, none⟩) (hs.lt (by omega))]; exact hs.cells k hlt
        have hx := hda.nth (by omega) k
        have hy := hdb.nth (by omega) k
        have hfin := hinv.step hda hdb _ rfl
        have HF := Lib.hid hfin
        clear hfin
        by_cases hlt2 : k < n2
        · obtain rfl := hs2.addr.resolve_right (by omega)
          have hc2 : wr.cell? ⟨b2, off2 + k, none⟩ = some (.int .u32 (nth ys k)) := by
            rw [hbel1.cell (p := ⟨b2, off2 + k, none⟩) (hs2.lt (by omega))]; exact hs2.cells k hlt2
          go_wp2
          go_roundw
          case rel =>
            refine ⟨k + 1, _, _, by omega, by go_num, ?_, HF.out, ?_, hbel1.setCell (Nat.le_refl _) _⟩
            · refine congrArg _ ?_; omega
            · rw [← set_zeros zs k (n + 1) _ hinv.len (by omega)]
              exact hown1.seti k _ (by omega)
          case measure => simp [intOf]; omega
        · have hy0 : nth ys k = 0 := nth_ge (by rw [hs2.len]; omega)
          have HY := Lib.hid hy0
          clear hy0
          go_wp2
          go_roundw
          case rel =>
            refine ⟨k + 1, _, _, by omega, by go_num, ?_, HF.out, ?_, hbel1.setCell (Nat.le_refl _) _⟩
            · refine congrArg _ ?_; rw [HY.out]; omega
            · rw [← set_zeros zs k (n + 1) _ hinv.len (by omega)]
              exact hown1.seti k _ (by rw [HY.out]; omega)
          case measure => simp [intOf]; omega
      · obtain rfl : k = n := by omega
        have hfin := hinv.done (by rw [hs.len]; omega) (by rw [hs2.len]; omega)
        have hset := set_zeros zs k (k + 1) cc hinv.len (by omega)
        rw [Nat.sub_self, List.replicate_zero, List.append_nil] at hset
        have HF := Lib.hid hfin
        clear hfin
        have hown2 := hown1.seti k (z := (cc : Int)) cc rfl
        rw [hset] at hown2
        have HL : Hid ((zs ++ [cc]).length = k + 1) := by rw [List.length_append, hinv.len]; rfl
        have hb2 := hbel1.setCell (p := ⟨w.heap.size, k, none⟩) (Nat.le_refl _) (.int .u32 (cc : Int))
        clear hset
        go_wp2_with fail
        refine (norm_any _ (zs ++ [cc]) _ (hown2.sl HL.out (by omega) HF.out.1.wf32)).mono ?_
        intro e w2 hr
        obtain ⟨v, rfl, hv, hb3⟩ := hr.num HF.out.1 HF.out.2 hb2
        go_wp2
        go_ret
        exact ⟨_, rfl, hv, hb3⟩

theorem add_any {w : World} {va vb : Value} {m n : Nat} (ha : IsN w va m) (hb : IsN w vb n) (L : Nat) (hL : L ≤ 8589934592) (hm : m < P2 L) (hn : n < P2 L) :
    Calls Try.prog 99 #[va, vb] w (RetN w (m + n)) := by
  obtain ⟨xs, h1, h2, rfl⟩ := ha
  obtain ⟨ys, g1, g2, rfl⟩ := hb
  have l1 := h2.len_P2 hm
  have l2 := g2.len_P2 hn
  by_cases h : xs.length < ys.length
  · rw [Nat.add_comm]
    exact add_core true vb va ys xs w g1 h1 g2.1 h2.1 (fun _ => h) (by omega) (by omega)
  · exact add_core false va vb xs ys w h1 g1 h2.1 g2.1 (fun h => by cases h) (by omega) (by omega)

#print axioms add_any
end Go.Proofs.Ytppbhjhbaknidaa
