/-
  The contracts of the specification's Small. Condition: numbers of at most 2^33 bits, a divisor from 1 to 2^16.
-/
import Derived.Test.YtppbhjhbaknidaaRefD
namespace Go.Proofs.Ytppbhjhbaknidaa
open Go.RowKit

structure SmallInv (xs qs : List Nat) (d n j r : Nat) : Prop where
  len : qs.length = n - j
  dg : Dg 65536 qs
  rest : r < d
  eq : val 65536 qs * d + r = val 65536 (xs.drop j)

theorem SmallInv.zero {xs : List Nat} {d n : Nat} (hd : 0 < d) (hn : xs.length = n) : SmallInv xs [] d n n 0 :=
  ⟨by simp, Dg.nil _, hd, by rw [List.drop_of_length_le (by omega)]; simp [val]⟩

theorem SmallInv.step {xs qs : List Nat} {d n k r : Nat} (h : SmallInv xs qs d n (k + 1) r) (hx : Dg 65536 xs) (hn : xs.length = n) (hk : k < n) :
    SmallInv xs ((nth xs k + 65536 * r) / d :: qs) d n k ((nth xs k + 65536 * r) % d) ∧ (nth xs k + 65536 * r) / d < 65536 := by
  have h0 := hx.nth (by omega) k
  have hr := h.rest
  have hq : (nth xs k + 65536 * r) / d < 65536 := by
    rw [Nat.div_lt_iff_lt_mul (by omega)]
    have : 65536 * (r + 1) ≤ 65536 * d := Nat.mul_le_mul_left _ hr
    omega
  refine ⟨⟨by rw [List.length_cons, h.len]; omega, ?_, Nat.mod_lt _ (by omega), ?_⟩, hq⟩
  · intro x hx
    rcases List.mem_cons.1 hx with hx | hx
    · rw [hx]; exact hq
    · exact h.dg x hx
  · rw [val_drop_cons _ (by omega), ← h.eq, val]
    have e := Nat.mod_add_div (nth xs k + 65536 * r) d
    generalize (nth xs k + 65536 * r) / d = q at *
    generalize (nth xs k + 65536 * r) % d = t at *
    rw [Nat.add_mul, Nat.mul_assoc, Nat.mul_add]
    rw [Nat.mul_comm d q] at e
    omega

theorem trim_own {w : World} {g n : Nat} {xs : List Nat} (h : Own w .i64 3 g xs) (hn : xs.length = n) (hm : n ≤ 1099511627776) (hd : Dg 65536 xs) :
    Calls Try.prog 105 #[.slice (some ⟨g, 0, none⟩) n n] w fun e w' => ∃ v, e = .returned v ∧ v.ownBlock = some g ∧ IsR w v (val 65536 xs) ∧ w' = w := by
  have hs := h.slAt hn hm hd.wf16
  refine (trim_val hs).mono ?_
  rintro e w' ⟨rfl, rfl⟩
  have ht := trim_spec xs
  rw [hs.len] at ht
  have := (hs.head ht.1).sl
  rw [← ht.2] at this
  exact ⟨_, rfl, rfl, ⟨_, this, hd.can, val_trim _ _⟩, rfl⟩

def RetRI (w : World) (n : Nat) (r : Nat) (e : Ending) (w' : World) : Prop := ∃ v, e = .returned (.tuple #[v, .int .i64 r]) ∧ IsR w' v n ∧ Below w.heap.size w w' ∧ (∀ k, v.ownBlock = some k → w.heap.size ≤ k)

set_option maxHeartbeats 1000000 in
theorem small_any {w : World} {v : Value} {m : Nat} (ha : IsR w v m) (d : Nat) (hd0 : 1 ≤ d) (hd : d ≤ 65536) (L : Nat) (hL : L ≤ 8589934592) (hm : m < P2 L) :
    Calls Try.prog 120 #[v, .int .i64 d] w (RetRI w (m / d) (m % d)) := by
  obtain ⟨xs, ha, hca, rfl⟩ := ha
  have l1 := hca.len_R hm
  obtain ⟨ao, n, cap, b, off, rfl, hs⟩ := ha
  rw [hs.len] at l1
  have hnb : n ≤ 600000000 := by omega
  have hle := hs.le
  have hmax := hs.max
  have hda := hca.1
  clear hm
  go_enter Try.func120, Try.ntmps120
  go_wp2_with (first | (at_make; refine wpList_make_nums _ rfl _ _ 29 rfl 3 .i64 8 Try.underlying29 (by kernel_rfl) .i64 .i64 _ _ n rfl rfl rfl rfl (by omega) (by omega) ?_; intro w1 hown hbel))
  go_loopw [7, 8] (fun c i wr => ∃ (j r : Nat) (qs : List Nat), j ≤ n ∧ i = .int .i64 ((j : Int) - 1) ∧ c = .int .i64 r ∧ SmallInv xs qs d n j r ∧ Own wr .i64 3 w.heap.size (List.replicate j 0 ++ qs) ∧ Below w.heap.size w wr)
    (fun _ i _ => (intOf i + 1).toNat)
  case atStart => exact ⟨n, 0, [], Nat.le_refl _, rfl, rfl, SmallInv.zero (by omega) hs.len, by simpa using hown, hbel⟩
  case round =>
    obtain ⟨j, r, qs, hj, rfl, rfl, hinv, hown1, hbel1⟩ := hrel
    clear hown hbel
    have hr := hinv.rest
    by_cases h0 : j = 0
    · subst h0
      rw [List.replicate_zero, List.nil_append] at hown1
      have hfin : val 65536 qs = val 65536 xs / d ∧ r = val 65536 xs % d := by
        have e := hinv.eq
        rw [List.drop_zero] at e
        rw [← e, Nat.mul_comm, Nat.mul_add_div (by omega), Nat.mul_add_mod, Nat.div_eq_of_lt hr, Nat.mod_eq_of_lt hr]
        exact ⟨rfl, rfl⟩
      have HF := Lib.hid hfin
      clear hfin
      have HL := Lib.hid hinv.len
      have hd0 : decide ((0 : Int) ≤ ((0 : Nat) : Int) - 1) = false := rfl
      go_wp2_with fail
      refine (trim_own hown1 (n := n) (by rw [HL.out]; rfl) (by omega) hinv.dg).mono ?_
      rintro e w2 ⟨v, rfl, hvb, hv, rfl⟩
      go_wp2
      go_ret2
      refine ⟨v, ?_, ?_, hbel1, fun k hk => ?_⟩
      · rw [← HF.out.2]; rfl
      · rw [← HF.out.1]; exact hv
      · rw [hvb] at hk; cases hk; exact Nat.le_refl _
    · obtain ⟨k, rfl⟩ : ∃ k, j = k + 1 := ⟨j - 1, by omega⟩
      rw [show ((k + 1 : Nat) : Int) - 1 = (k : Int) by omega]
      obtain rfl := hs.addr.resolve_right (by omega)
      have hc1 : wr.cell? ⟨b, off + k, none⟩ = some (.int .i64 (nth xs k)) := by
        rw [hbel1.cell (p := ⟨b, off + k, none⟩) (hs.lt (by omega))]; exact hs.cells k (by omega)
      have ho : wr.cell? ⟨w.heap.size, k, none⟩ = some (.int .i64 (nth (List.replicate (k + 1) 0 ++ qs) k)) := hown1.cell (by rw [List.length_append, hinv.len, List.length_replicate]; omega)
      have hf := hown1.frozen k
      have hx := hda.nth (by omega) k
      have HS := Lib.hid (hinv.step hda hs.len (by omega))
      go_wp2
      go_roundw
      case rel =>
        have e1 : ((r : Int) * 65536 + (nth xs k : Int)) % (d : Int) = (((nth xs k + 65536 * r) % d : Nat) : Int) := by
          rw [Int.natCast_emod, Int.natCast_add, Int.natCast_mul, Int.add_comm, Int.mul_comm]; rfl
        have e2 : ((r : Int) * 65536 + (nth xs k : Int)) / (d : Int) = (((nth xs k + 65536 * r) / d : Nat) : Int) := by
          rw [Int.natCast_ediv, Int.natCast_add, Int.natCast_mul, Int.add_comm, Int.mul_comm]; rfl
        rw [e1, e2]
        refine ⟨k, _, _, by omega, rfl, rfl, HS.out.1, ?_, hbel1.setCell (Nat.le_refl _) _⟩
        rw [← set_front]
        have hq := HS.out.2
        generalize (nth xs k + 65536 * r) / d = q at hq ⊢
        exact hown1.seti k _ (by omega)
      case measure => simp [intOf]
end Go.Proofs.Ytppbhjhbaknidaa
