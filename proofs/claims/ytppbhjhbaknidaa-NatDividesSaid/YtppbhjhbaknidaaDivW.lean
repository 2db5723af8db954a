/-
  The contract of the program's divWord: quotient and remainder by a word. Conditions: the word is not 0; numbers of at most 2^33 bits.
-/
import Derived.Test.YtppbhjhbaknidaaRsh
namespace Go.Proofs.Ytppbhjhbaknidaa
open Go.RowKit

structure DivWInv (xs qs : List Nat) (d n j r : Nat) : Prop where
  len : qs.length = n - j
  dg : Dg 4294967296 qs
  rest : r < d
  eq : val 4294967296 qs * d + r = val 4294967296 (xs.drop j)

theorem DivWInv.zero {xs : List Nat} {d n : Nat} (hd : 0 < d) (hn : xs.length = n) : DivWInv xs [] d n n 0 :=
  ⟨by simp, Dg.nil _, hd, by rw [List.drop_of_length_le (by omega)]; simp [val]⟩

theorem val_drop_cons (b : Nat) {xs : List Nat} {k : Nat} (h : k < xs.length) : val b (xs.drop k) = nth xs k + b * val b (xs.drop (k + 1)) := by
  rw [List.drop_eq_getElem_cons h, val, nth_lt h]

theorem DivWInv.step {xs qs : List Nat} {d n k r : Nat} (h : DivWInv xs qs d n (k + 1) r) (hx : Dg 4294967296 xs) (hn : xs.length = n) (hk : k < n) :
    DivWInv xs ((nth xs k + 4294967296 * r) / d :: qs) d n k ((nth xs k + 4294967296 * r) % d) ∧ (nth xs k + 4294967296 * r) / d < 4294967296 := by
  have h0 := hx.nth (by omega) k
  have hr := h.rest
  have hq : (nth xs k + 4294967296 * r) / d < 4294967296 := by
    rw [Nat.div_lt_iff_lt_mul (by omega)]
    have : 4294967296 * (r + 1) ≤ 4294967296 * d := Nat.mul_le_mul_left _ hr
    omega
  refine ⟨⟨by rw [List.length_cons, h.len]; omega, ?_, Nat.mod_lt _ (by omega), ?_⟩, hq⟩
  · intro x hx
    rcases List.mem_cons.1 hx with hx | hx
    · rw [hx]; exact hq
    · exact h.dg x hx
  · rw [val_drop_cons _ (by omega), ← h.eq, val]
    have e := Nat.mod_add_div (nth xs k + 4294967296 * r) d
    generalize (nth xs k + 4294967296 * r) / d = q at *
    generalize (nth xs k + 4294967296 * r) % d = t at *
    rw [Nat.add_mul, Nat.mul_assoc, Nat.mul_add]
    rw [Nat.mul_comm d q] at e
    omega

theorem set_front (qs : List Nat) (k q : Nat) : (List.replicate (k + 1) 0 ++ qs).set k q = List.replicate k 0 ++ q :: qs := by
  rw [List.replicate_succ', List.append_assoc, List.set_append_right _ _ (by simp)]
  simp

def RetNU (w : World) (n : Nat) (r : Nat) (e : Ending) (w' : World) : Prop := ∃ v, e = .returned (.tuple #[v, .int .u32 r]) ∧ IsN w' v n ∧ Below w.heap.size w w'

/-- .. the number in a block that the call has made. -/
def RetNUF (w : World) (n : Nat) (r : Nat) (e : Ending) (w' : World) : Prop := ∃ v, e = .returned (.tuple #[v, .int .u32 r]) ∧ IsN w' v n ∧ Below w.heap.size w w' ∧ (∀ k, v.ownBlock = some k → w.heap.size ≤ k)

theorem norm_own {w : World} {g n : Nat} {xs : List Nat} (h : Own w .u32 115 g xs) (hn : xs.length = n) (hm : n ≤ 1099511627776) (hd : Dg 4294967296 xs) :
    Calls Try.prog 126 #[.slice (some ⟨g, 0, none⟩) n n] w fun e w' => ∃ v, e = .returned v ∧ v.ownBlock = some g ∧ IsN w v (val 4294967296 xs) ∧ w' = w := by
  have hs := h.slAt hn hm hd.wf32
  refine (norm_val hs).mono ?_
  rintro e w' ⟨rfl, rfl⟩
  have ht := trim_spec xs
  rw [hs.len] at ht
  have := (hs.cut ht.1).sl
  rw [← ht.2] at this
  exact ⟨_, rfl, rfl, ⟨_, this, hd.can, val_trim _ _⟩, rfl⟩

theorem or64' {x y : Nat} (hx : x < 4294967296) (hy : y < 4294967296) : bits .or .u64 ((y : Int) * 4294967296) (x : Int) = (x : Int) + 4294967296 * (y : Int) := by
  rw [show (y : Int) * 4294967296 = ((4294967296 * y : Nat) : Int) by omega, u64_or_nat _ _ (by omega) (by omega)]
  have := Nat.two_pow_add_eq_or_of_lt (i := 32) (b := x) hx y
  rw [show (2 : Nat) ^ 32 = 4294967296 from rfl] at this
  rw [← this]
  omega

set_option maxHeartbeats 1000000 in
theorem divWord_own {w : World} {v : Value} {m : Nat} (ha : IsN w v m) (d : Nat) (hd0 : 1 ≤ d) (hd : d < 4294967296) (L : Nat) (hL : L ≤ 8589934592) (hm : m < P2 L) :
    Calls Try.prog 114 #[v, .int .u32 d] w (RetNUF w (m / d) (m % d)) := by
  obtain ⟨xs, ha, hca, rfl⟩ := ha
  have l1 := hca.len_P2 hm
  obtain ⟨ao, n, cap, b, off, rfl, hs⟩ := ha
  rw [hs.len] at l1
  have hnb : n ≤ 300000000 := by omega
  have hle := hs.le
  have hmax := hs.max
  have hda := hca.1
  clear hm
  go_enter Try.func114, Try.ntmps114
  go_wp2_with (first | (at_make; refine wpList_make_nums _ rfl _ _ 23 rfl 115 .u32 4 Try.underlying23 (by kernel_rfl) .i64 .i64 _ _ n rfl rfl rfl rfl (by omega) (by omega) ?_; intro w1 hown hbel))
  go_loopw [7, 8] (fun c i wr => ∃ (j r : Nat) (qs : List Nat), j ≤ n ∧ i = .int .i64 ((j : Int) - 1) ∧ c = .int .u64 r ∧ DivWInv xs qs d n j r ∧ Own wr .u32 115 w.heap.size (List.replicate j 0 ++ qs) ∧ Below w.heap.size w wr)
    (fun _ i _ => (intOf i + 1).toNat)
  case atStart => exact ⟨n, 0, [], Nat.le_refl _, rfl, rfl, DivWInv.zero (by omega) hs.len, by simpa using hown, hbel⟩
  case round =>
    obtain ⟨j, r, qs, hj, rfl, rfl, hinv, hown1, hbel1⟩ := hrel
    clear hown hbel
    have hr := hinv.rest
    by_cases h0 : j = 0
    · subst h0
      rw [List.replicate_zero, List.nil_append] at hown1
      have hfin : val 4294967296 qs = val 4294967296 xs / d ∧ r = val 4294967296 xs % d := by
        have e := hinv.eq
        rw [List.drop_zero] at e
        rw [← e, Nat.mul_comm, Nat.mul_add_div (by omega), Nat.mul_add_mod, Nat.div_eq_of_lt hr, Nat.mod_eq_of_lt hr]
        exact ⟨rfl, rfl⟩
      have HF := Lib.hid hfin
      clear hfin
      have HL := Lib.hid hinv.len
      have hd0 : decide ((0 : Int) ≤ ((0 : Nat) : Int) - 1) = false := rfl
      go_wp2_with fail
      refine (norm_own hown1 (n := n) (by rw [HL.out]; rfl) (by omega) hinv.dg).mono ?_
      rintro e w2 ⟨v, rfl, hvb, hv, rfl⟩
      go_wp2
      go_ret2
      refine ⟨v, ?_, ?_, hbel1, fun k hk => ?_⟩
      · rw [← HF.out.2]; rfl
      · rw [← HF.out.1]; exact hv
      · rw [hvb] at hk; cases hk; exact Nat.le_refl _
    · obtain ⟨k, rfl⟩ : ∃ k, j = k + 1 := ⟨j - 1, by omega⟩
      rw [show ((k + 1 : Nat) : Int) - 1 = (k : Int) by omega]
      obtain rfl := hs.addr.resolve_right (by omega)
      have hc1 : wr.cell? ⟨b, off + k, none⟩ = some (.int .u32 (nth xs k)) := by
        rw [hbel1.cell (p := ⟨b, off + k, none⟩) (hs.lt (by omega))]; exact hs.cells k (by omega)
      have ho : wr.cell? ⟨w.heap.size, k, none⟩ = some (.int .u32 (nth (List.replicate (k + 1) 0 ++ qs) k)) := hown1.cell (by rw [List.length_append, hinv.len, List.length_replicate]; omega)
      have hf := hown1.frozen k
      have hx := hda.nth (by omega) k
      have HS := Lib.hid (hinv.step hda hs.len (by omega))
      have hor := or64' hx (y := r) (by omega)
      go_wp2
      go_roundw
      case rel =>
        have e1 : ((nth xs k : Int) + 4294967296 * (r : Int)) % (d : Int) = (((nth xs k + 4294967296 * r) % d : Nat) : Int) := by
          rw [Int.natCast_emod, Int.natCast_add, Int.natCast_mul]; rfl
        have e2 : ((nth xs k : Int) + 4294967296 * (r : Int)) / (d : Int) = (((nth xs k + 4294967296 * r) / d : Nat) : Int) := by
          rw [Int.natCast_ediv, Int.natCast_add, Int.natCast_mul]; rfl
        rw [e1, e2]
        refine ⟨k, _, _, by omega, rfl, rfl, HS.out.1, ?_, hbel1.setCell (Nat.le_refl _) _⟩
        rw [← set_front]
        have hq := HS.out.2
        generalize (nth xs k + 4294967296 * r) / d = q at hq ⊢
        exact hown1.seti k _ (by omega)
      case measure => simp [intOf]

theorem divWord_any {w : World} {v : Value} {m : Nat} (ha : IsN w v m) (d : Nat) (hd0 : 1 ≤ d) (hd : d < 4294967296) (L : Nat) (hL : L ≤ 8589934592) (hm : m < P2 L) :
    Calls Try.prog 114 #[v, .int .u32 d] w (RetNU w (m / d) (m % d)) :=
  (divWord_own ha d hd0 hd L hL hm).mono fun _ _ ⟨v, h1, h2, h3, _⟩ => ⟨v, h1, h2, h3⟩

end Go.Proofs.Ytppbhjhbaknidaa
