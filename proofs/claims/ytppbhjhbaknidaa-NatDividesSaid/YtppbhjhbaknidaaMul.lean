/-
  The contract of the program's mul (Karatsuba's way): the product. Condition: numbers of at most 2^32 bits.
-/
import Derived.Test.YtppbhjhbaknidaaAdd
import Derived.Test.YtppbhjhbaknidaaSub
import Derived.Test.YtppbhjhbaknidaaMulP
import Derived.Test.YtppbhjhbaknidaaUp
namespace Go.Proofs.Ytppbhjhbaknidaa
open Go.RowKit

theorem SlAt.drewN {w : World} {K : IntKind} {ao : Option Addr} {n cap b off : Nat} {xs : List Nat} (h : SlAt w K ao n cap b off xs) (q : Nat) : SlAt (w.drewN q) K ao n cap b off xs :=
  { h with cells := fun i hi => h.cells i hi }

/-- 'a[:h]': the first numbers, the same place. -/
theorem SlAt.head {w : World} {K : IntKind} {ao : Option Addr} {n cap b off : Nat} {xs : List Nat} (h : SlAt w K ao n cap b off xs) {m : Nat} (hm : m ≤ n) : SlAt w K ao m cap b off (xs.take m) :=
  ⟨by rw [List.length_take, h.len]; omega, by have := h.le; omega, by have := h.le; have := h.max; omega,
    by rcases h.addr with h | ⟨h, h1, h2⟩
       · exact .inl h
       · exact .inr ⟨h, by omega, h2⟩,
    fun i hi => by rw [nth_take hi]; exact h.cells i (by omega), wf_take h.wf m⟩

/-- 'a[h:]', h before the end: the other numbers, behind. -/
theorem SlAt.tail {w : World} {K : IntKind} {n cap b off : Nat} {xs : List Nat} (h : SlAt w K (some ⟨b, off, none⟩) n cap b off xs) {m : Nat} (hm : m ≤ n) : SlAt w K (some ⟨b, off + m, none⟩) (n - m) (cap - m) b (off + m) (xs.drop m) :=
  ⟨by rw [List.length_drop, h.len], by have := h.le; omega, by have := h.max; omega, .inl rfl,
    fun i hi => by rw [nth_drop, Nat.add_assoc]; exact h.cells (m + i) (by omega), fun x hx => h.wf x (List.mem_of_mem_drop hx)⟩

theorem SlAt.heap {w w' : World} {K : IntKind} {ao : Option Addr} {n cap b off : Nat} {xs : List Nat} (h : SlAt w K ao n cap b off xs) (e : w'.heap = w.heap) : SlAt w' K ao n cap b off xs :=
  { h with cells := fun i hi => by rw [← h.cells i hi]; simp only [World.cell?, e] }

/-- A callee that draws nothing, in the second of two regions that draw. -/
theorem quiet_same2 {P : Program} {f : FuncId} {args : Array Value} {w : World} {p n : Nat} {v : Value}
    (h : Calls P f args (w.drewN (p + n)) fun e w' => e = .returned v ∧ w' = w.drewN (p + n)) : Calls P f args (w.drewN (p + n)) fun e w'' => e = .returned v ∧ ∃ m, w'' = w.drewN (p + m) :=
  h.mono fun _ _ ⟨he, hm⟩ => ⟨he, n, hm⟩

/-- A part of a number without zeros at its top: what norm returns of it. -/
theorem norm_part {w : World} {ao : Option Addr} {n cap b off : Nat} {xs : List Nat} (hs : SlAt w .u32 ao n cap b off xs) (hd : Dg 4294967296 xs) :
    ∃ t, Hid (∀ W : World, W.heap = w.heap → Calls Try.prog 126 #[.slice ao n cap] W (fun e w' => e = .returned (.slice ao t t) ∧ w' = W)) ∧ IsN w (.slice ao t t) (val 4294967296 xs) := by
  refine ⟨(trim xs).length, fun W hW => norm_val (hs.heap hW), trim xs, ?_, hd.can, val_trim _ _⟩
  have ht := trim_spec xs
  rw [hs.len] at ht
  have := (hs.cut ht.1).sl
  rw [← ht.2] at this
  exact this

theorem kara {a0 a1 b0 b1 P : Nat} : a0 * b0 + ((a0 + a1) * (b0 + b1) - a0 * b0 - a1 * b1) * P + a1 * b1 * (P * P) = (a0 + P * a1) * (b0 + P * b1) := by
  have e1 : (a0 + a1) * (b0 + b1) - a0 * b0 - a1 * b1 = a0 * b1 + a1 * b0 := by
    rw [Nat.add_mul, Nat.mul_add, Nat.mul_add]; omega
  rw [e1, Nat.add_mul (a0 * b1), Nat.mul_add (a0 + P * a1), Nat.add_mul a0 _ b0, Nat.add_mul a0 _ (P * b1)]
  have e2 : a0 * (P * b1) = a0 * b1 * P := by simp only [Nat.mul_comm, Nat.mul_left_comm]
  have e3 : P * a1 * b0 = a1 * b0 * P := by simp only [Nat.mul_comm, Nat.mul_left_comm]
  have e4 : P * a1 * (P * b1) = a1 * b1 * (P * P) := by simp only [Nat.mul_comm, Nat.mul_left_comm]
  omega

theorem below_drew0 (w : World) (n : Nat) : Below w.heap.size w (w.drewN n) := below_drewN' (Below.refl _ _) n
theorem nextB {w w1 w2 : World} (h : Below w.heap.size w w1) (k : Below w1.heap.size w1 w2) : Below w.heap.size w w2 := h.trans (k.mono h.size)

/-- The parts' bounds. -/
structure KBd (m n a0 a1 b0 b1 L f : Nat) : Prop where
  a0L : a0 < P2 L
  a1L : a1 < P2 L
  b0L : b0 < P2 L
  b1L : b1 < P2 L
  saL : a0 + a1 < P2 L
  sbL : b0 + b1 < P2 L
  f0 : a0 < P2 (32 * f) ∨ b0 < P2 (32 * f)
  f1 : a1 < P2 (32 * f) ∨ b1 < P2 (32 * f)
  fs : a0 + a1 < P2 (32 * f) ∨ b0 + b1 < P2 (32 * f)

theorem part_lt {xs : List Nat} (hd : Can 4294967296 xs) {h f : Nat} (h1 : 24 ≤ h) (h2 : 2 * h ≤ xs.length + 1) (hv : val 4294967296 xs < P2 (32 * (f + 1))) :
    val 4294967296 (xs.take h) < P2 (32 * f) ∧ val 4294967296 (xs.drop h) < P2 (32 * f) ∧ val 4294967296 (xs.take h) + val 4294967296 (xs.drop h) < P2 (32 * f) := by
  have hl := hd.len_P2 hv
  have e0 := val_lt (hd.1.take h)
  have e1 := val_lt (hd.1.drop h)
  rw [P2_32, List.length_take] at e0
  rw [P2_32, List.length_drop] at e1
  have e0' := lt_P2_mono e0 (show 32 * min h xs.length ≤ 32 * f - 1 by omega)
  have e1' := lt_P2_mono e1 (show 32 * (xs.length - h) ≤ 32 * f - 1 by omega)
  have hs := add_lt_P2 e0' e1'
  rw [show 32 * f - 1 + 1 = 32 * f by omega] at hs
  exact ⟨lt_P2_mono e0' (by omega), lt_P2_mono e1' (by omega), hs⟩

theorem sum_le {a0 a1 m P : Nat} (hP : 0 < P) (h : m = a0 + P * a1) : a0 + a1 ≤ m := by
  have := Nat.le_mul_of_pos_left a1 hP
  omega

/-- The contract, for numbers of which one has at most f words. -/
def MulUpto (f : Nat) : Prop := ∀ (w : World) (va vb : Value) (m n : Nat) (_ : IsN w va m) (_ : IsN w vb n) (L : Nat) (_ : L ≤ 4294967296) (_ : m < P2 L) (_ : n < P2 L) (_ : m < P2 (32 * f) ∨ n < P2 (32 * f)),
    Calls Try.prog 100 #[va, vb] w (RetN w (m * n))

set_option maxHeartbeats 1000000 in
theorem mul_step (f : Nat) (IH0 : 0 < f → MulUpto f) : MulUpto (f + 1) := by
  intro w va vb m n ha hb L hL hm hn hf
  obtain ⟨xs, sa, hca, hva⟩ := ha
  obtain ⟨ys, sb, hcb, hvb⟩ := hb
  have l1 := hca.len_P2 (by rw [hva]; exact hm)
  have l2 := hcb.len_P2 (by rw [hvb]; exact hn)
  obtain ⟨ao, k, cap, b, off, rfl, hs⟩ := sa
  obtain ⟨ao2, k2, cap2, b2, off2, rfl, hs2⟩ := sb
  rw [hs.len] at l1
  rw [hs2.len] at l2
  have hle := hs.le
  have hmax := hs.max
  have hle2 := hs2.le
  have hmax2 := hs2.max
  have HVA := Lib.hid hva
  have HVB := Lib.hid hvb
  clear hva hvb
  by_cases hsmall : k < 48 ∨ k2 < 48
  · have hcall := mulPlain_any (w := w) (va := .slice ao k cap) (vb := .slice ao2 k2 cap2) (m := m) (n := n) ⟨xs, hs.sl, hca, HVA.out⟩ ⟨ys, hs2.sl, hcb, HVB.out⟩ L (by omega) hm hn
    have HC := Lib.hid hcall
    clear hcall
    by_cases hcmp : k2 < k
    all_goals
      go_enter Try.func100, Try.ntmps100
      go_wp2_with fail
      refine HC.out.mono ?_
      rintro e w1 ⟨v, rfl, hv, hb⟩
      go_wp2
      go_ret
      exact ⟨_, rfl, hv, hb⟩
  · obtain ⟨h, hh⟩ : ∃ h, h = (min k k2 + 1) / 2 := ⟨_, rfl⟩
    have hh1 : 24 ≤ h := by omega
    have hh2 : h < k := by omega
    have hh3 : h < k2 := by omega
    have hh4 : 2 * h ≤ k + 1 := by omega
    have hh5 : 2 * h ≤ k2 + 1 := by omega
    have IH : MulUpto f := IH0 (by
      rcases hf with hf | hf
      · have := hca.len_P2 (by rw [HVA.out]; exact hf)
        rw [hs.len] at this; omega
      · have := hcb.len_P2 (by rw [HVB.out]; exact hf)
        rw [hs2.len] at this; omega)
    clear IH0
    obtain rfl := hs.addr.resolve_right (by omega)
    obtain rfl := hs2.addr.resolve_right (by omega)
    have HH := Lib.hid hh
    clear hh
    by_cases hcmp : k2 < k
    all_goals
      go_enter Try.func100, Try.ntmps100
      go_wp2_with fail
      first | rw [show ((k2 : Int) + 1) / 2 = (h : Int) by have := HH.out; omega] | rw [show ((k : Int) + 1) / 2 = (h : Int) by have := HH.out; omega]
      obtain ⟨t0, N0, i0⟩ := norm_part (hs.head (m := h) (by omega)) (hca.1.take h)
      obtain ⟨t1, N1, i1⟩ := norm_part (hs.tail (m := h) (by omega)) (hca.1.drop h)
      obtain ⟨s0, M0, j0⟩ := norm_part (hs2.head (m := h) (by omega)) (hcb.1.take h)
      obtain ⟨s1, M1, j1⟩ := norm_part (hs2.tail (m := h) (by omega)) (hcb.1.drop h)
      have hma := val_take_drop 4294967296 xs h (by rw [hs.len]; omega)
      have hnb := val_take_drop 4294967296 ys h (by rw [hs2.len]; omega)
      rw [HVA.out, P2_32] at hma
      rw [HVB.out, P2_32] at hnb
      have hbd : KBd m n (val 4294967296 (xs.take h)) (val 4294967296 (xs.drop h)) (val 4294967296 (ys.take h)) (val 4294967296 (ys.drop h)) L f := by
        have q1 := sum_le (P2_pos _) hma
        have q2 := sum_le (P2_pos _) hnb
        have F : (val 4294967296 (xs.take h) < P2 (32 * f) ∧ val 4294967296 (xs.drop h) < P2 (32 * f) ∧ val 4294967296 (xs.take h) + val 4294967296 (xs.drop h) < P2 (32 * f)) ∨
            (val 4294967296 (ys.take h) < P2 (32 * f) ∧ val 4294967296 (ys.drop h) < P2 (32 * f) ∧ val 4294967296 (ys.take h) + val 4294967296 (ys.drop h) < P2 (32 * f)) := by
          rcases hf with hf | hf
          · exact .inl (part_lt hca hh1 (by rw [hs.len]; exact hh4) (by rw [HVA.out]; exact hf))
          · exact .inr (part_lt hcb hh1 (by rw [hs2.len]; exact hh5) (by rw [HVB.out]; exact hf))
        refine ⟨by omega, by omega, by omega, by omega, by omega, by omega, F.imp (·.1) (·.1), F.imp (·.2.1) (·.2.1), F.imp (·.2.2) (·.2.2)⟩
      clear hf HVA HVB hca hcb
      have HMA := Lib.hid hma
      have HNB := Lib.hid hnb
      clear hma hnb
      generalize val 4294967296 (xs.take h) = a0 at *
      generalize val 4294967296 (xs.drop h) = a1 at *
      generalize val 4294967296 (ys.take h) = b0 at *
      generalize val 4294967296 (ys.drop h) = b1 at *
      go_quiet ((first | (go_at_call 126; (with_reducible refine Calls.quiet_of_same (N0.out _ ?_)); rfl) | (go_at_call 126; (with_reducible refine Calls.quiet_of_same (N1.out _ ?_)); rfl)))
      go_wp2_with fail
      go_quiet ((first | (go_at_call 126; (with_reducible refine quiet_same2 (M0.out _ ?_)); rfl) | (go_at_call 126; (with_reducible refine quiet_same2 (M1.out _ ?_)); rfl)))
      go_wp2_with fail
      refine (IH _ _ _ a0 b0 (i0.below (below_drew0 _ _)) (j0.below (below_drew0 _ _)) L hL hbd.a0L hbd.b0L hbd.f0).mono ?_
      rintro e w1 ⟨vl, rfl, il, bl⟩
      have B1 := nextB (below_drew0 _ _) bl
      clear bl
      go_wp2_with fail
      refine (IH _ _ _ a1 b1 (i1.below B1) (j1.below B1) L hL hbd.a1L hbd.b1L hbd.f1).mono ?_
      rintro e w2 ⟨vh, rfl, ih, bh⟩
      have B2 := nextB B1 bh
      have il2 := il.below bh
      clear bh il B1
      go_wp2_with fail
      refine (add_any (i0.below B2) (i1.below B2) L (by omega) hbd.a0L hbd.a1L).mono ?_
      rintro e w3 ⟨vsa, rfl, isa, b3⟩
      have B3 := nextB B2 b3
      have il3 := il2.below b3
      have ih3 := ih.below b3
      clear b3 il2 ih B2
      go_wp2_with fail
      refine (add_any (j0.below B3) (j1.below B3) L (by omega) hbd.b0L hbd.b1L).mono ?_
      rintro e w4 ⟨vsb, rfl, isb, b4⟩
      have B4 := nextB B3 b4
      have il4 := il3.below b4
      have ih4 := ih3.below b4
      have isa4 := isa.below b4
      clear b4 il3 ih3 B3 isa
      go_wp2_with fail
      refine (IH _ _ _ (a0 + a1) (b0 + b1) isa4 isb L hL hbd.saL hbd.sbL hbd.fs).mono ?_
      rintro e w5 ⟨vp, rfl, ip, b5⟩
      have B5 := nextB B4 b5
      have il5 := il4.below b5
      have ih5 := ih4.below b5
      clear b5 il4 ih4 B4 isa4 isb
      have q0 : a0 * b0 + a1 * b1 ≤ (a0 + a1) * (b0 + b1) := by rw [Nat.add_mul, Nat.mul_add, Nat.mul_add]; omega
      have q1 := mul_lt_P2 hbd.saL hbd.sbL
      go_wp2_with fail
      refine (sub_any ip il5 (L + L) (by omega) q1 (by omega)).mono ?_
      rintro e w6 ⟨vm, rfl, im, b6⟩
      have B6 := nextB B5 b6
      have il6 := il5.below b6
      have ih6 := ih5.below b6
      clear b6 il5 ih5 B5 ip
      go_wp2_with fail
      refine (sub_any im ih6 (L + L) (by omega) (by omega) (by omega)).mono ?_
      rintro e w7 ⟨vd, rfl, idd, b7⟩
      have B7 := nextB B6 b7
      have il7 := il6.below b7
      have ih7 := ih6.below b7
      clear b7 il6 ih6 B6 im
      have hk := kara (a0 := a0) (a1 := a1) (b0 := b0) (b1 := b1) (P := P2 (32 * h))
      rw [← HMA.out, ← HNB.out] at hk
      have q2 := mul_lt_P2 hm hn
      rw [← hk] at q2
      have HK := Lib.hid hk
      clear hk hbd HMA HNB
      generalize (a0 + a1) * (b0 + b1) - a0 * b0 - a1 * b1 = D at *
      generalize a0 * b0 = lo at *
      generalize a1 * b1 = hi at *
      have q3 : D ≤ D * P2 (32 * h) := Nat.le_mul_of_pos_right _ (P2_pos _)
      have q4 : hi ≤ hi * (P2 (32 * h) * P2 (32 * h)) := Nat.le_mul_of_pos_right _ (Nat.mul_pos (P2_pos _) (P2_pos _))
      go_wp2_with fail
      refine (up_any idd (h : Int) (by omega) (by omega) (L + L) (by omega) (by omega)).mono ?_
      rintro e w8 ⟨vu, rfl, iu, b8⟩
      rw [Int.toNat_natCast] at iu
      have B8 := nextB B7 b8
      have il8 := il7.below b8
      have ih8 := ih7.below b8
      clear b8 il7 ih7 B7 idd
      go_wp2_with fail
      refine (add_any il8 iu (L + L) (by omega) (by omega) (by omega)).mono ?_
      rintro e w9 ⟨vt, rfl, it, b9⟩
      have B9 := nextB B8 b9
      have ih9 := ih8.below b9
      clear b9 il8 ih8 B8 iu
      go_wp2_with fail
      refine (up_any ih9 (2 * (h : Int)) (by omega) (by omega) (L + L) (by omega) (by omega)).mono ?_
      rintro e w10 ⟨vx, rfl, ix, b10⟩
      rw [show (2 * (h : Int)).toNat = h + h by omega, Nat.mul_add 32 h h, P2_add] at ix
      have B10 := nextB B9 b10
      have it10 := it.below b10
      clear b10 it ih9 B9
      go_wp2_with fail
      refine (add_any it10 ix (L + L) (by omega) (by omega) (by omega)).mono ?_
      rintro e w11 ⟨vy, rfl, iy, b11⟩
      rw [HK.out] at iy
      have B11 := nextB B10 b11
      go_wp2
      go_ret
      exact ⟨_, rfl, iy, B11⟩

theorem mul_all (f : Nat) : MulUpto f := by
  induction f with
  | zero =>
    intro w va vb m n ha hb L hL hm hn hf
    have h0 : m < P2 (32 * (0 + 1)) ∨ n < P2 (32 * (0 + 1)) := hf.imp (fun h => lt_P2_mono h (by omega)) (fun h => lt_P2_mono h (by omega))
    exact mul_step 0 (fun h => absurd h (Nat.lt_irrefl 0)) w va vb m n ha hb L hL hm hn h0
  | succ f ih => exact mul_step f (fun _ => ih)

theorem mul_any {w : World} {va vb : Value} {m n : Nat} (ha : IsN w va m) (hb : IsN w vb n) (L : Nat) (hL : L ≤ 4294967296) (hm : m < P2 L) (hn : n < P2 L) :
    Calls Try.prog 100 #[va, vb] w (RetN w (m * n)) :=
  mul_all L w va vb m n ha hb L hL hm hn (.inl (lt_P2_mono hm (by omega)))
#print axioms mul_any
end Go.Proofs.Ytppbhjhbaknidaa
