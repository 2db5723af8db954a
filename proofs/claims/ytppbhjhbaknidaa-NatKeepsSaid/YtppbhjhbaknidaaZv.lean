/-
  The walk of the law NatNearest. No condition.
-/
import Derived.Test.YtppbhjhbaknidaaZr
import Derived.Deep.DeepCutAuto
set_option linter.unusedVariables false
set_option linter.unusedSimpArgs false

/-
  The walk of the law NatNearest. No condition.
-/
set_option linter.unusedVariables false
set_option linter.unusedSimpArgs false
namespace Go.Proofs.Ytppbhjhbaknidaa
open Go.RowKit

theorem near_ot {n d : Nat} (h1 : n < 9223372036854775808) (h2 : d < 9223372036854775808) (h3 : 0 < d) : n < P2 64 ∧ d < P2 64 ∧ 0 < d / Nat.gcd n d ∧ n / Nat.gcd n d < P2 193 ∧ d / Nat.gcd n d < P2 193 ∧ d / Nat.gcd n d ≤ d := by
  have e : P2 64 = 18446744073709551616 := by simp [P2]
  have a : n < P2 64 := by omega
  have b : d < P2 64 := by omega
  have f := low_facts h3 a b
  exact ⟨a, b, f.1, lt_P2_mono f.2.2.1 (by omega), lt_P2_mono f.2.2.2 (by omega), Nat.div_le_self _ _⟩
structure NearC (p q r s M r2 s2 A1 B1 A2 B2 : Nat) (z : Int) : Prop where
  bs : s < P2 193
  sM : s ≤ M
  sI : intN s = s
  sB : intB s = true
  b2 : s2 < P2 193
  a1 : ∀ {w : World} {f g : Value}, IsF w f p q → IsF w g r s → Calls Try.prog 95 #[f, g] w (RetF w A1 B1)
  a2 : ∀ {w : World} {f g : Value}, IsF w f p q → IsF w g r2 s2 → Calls Try.prog 95 #[f, g] w (RetF w A2 B2)
  cm : ∀ {w : World} {f g : Value}, IsF w f A1 B1 → IsF w g A2 B2 → Calls Try.prog 63 #[f, g] w (RetI w z)
  cg : ∀ {w : World} {f g : Value}, IsF w f r s → IsF w g r2 s2 → Calls Try.prog 63 #[f, g] w (RetI w (cmpI (r * s2) (r2 * s)))
  z : z = -1 ∨ (z = 0 ∧ (s < s2 ∨ (s = s2 ∧ r ≤ r2)))
theorem nearC {p q r s M n d : Nat} (h : 0 < q ∧ Nat.gcd p q = 1 ∧ p < P2 (16 * 12) ∧ q < P2 (16 * 12)) (hb : IsBest p q M r s ∧ r ≤ p + 1) (hM : M < 9223372036854775808)
    (hx : n < P2 64 ∧ d < P2 64 ∧ 0 < d / Nat.gcd n d ∧ n / Nat.gcd n d < P2 193 ∧ d / Nat.gcd n d < P2 193 ∧ d / Nat.gcd n d ≤ d) (hd : d ≤ M) :
    ∃ A1 B1 A2 B2 z, NearC p q r s M (n / Nat.gcd n d) (d / Nat.gcd n d) A1 B1 A2 B2 z := by
  obtain ⟨hx1, hx2, hx3, hx4, hx5, hx6⟩ := hx
  generalize n / Nat.gcd n d = r2 at *
  generalize d / Nat.gcd n d = s2 at *
  obtain ⟨q0, -, hp, hq⟩ := h
  obtain ⟨hbe, hr⟩ := hb
  have e : P2 64 = 18446744073709551616 := by simp [P2]
  have e63 : P2 63 = 9223372036854775808 := by simp [P2]
  have hs64 : s < P2 64 := by have := hbe.le; omega
  have hs63 : s < P2 63 := by have := hbe.le; omega
  have hs : s < P2 193 := lt_P2_mono hs64 (by omega)
  have hr2 : r < P2 193 := Nat.lt_of_le_of_lt hr (one_up hp)
  have hp2 : p < P2 193 := lt_P2_mono hp (by omega)
  have hq2 : q < P2 193 := lt_P2_mono hq (by omega)
  have X1 := dst_lt hp2 hq2 hr2 hs
  have Y1 := mul_lt_P2 hq2 hs
  have X2 := dst_lt hp2 hq2 hx4 hx5
  have Y2 := mul_lt_P2 hq2 hx5
  refine ⟨_, _, _, _, _, ⟨hs, hbe.le, ?_, ?_, hx5, fun i j => apart_any i j 193 (by omega) hp2 hq2 hr2 hs, fun i j => apart_any i j 193 (by omega) hp2 hq2 hx4 hx5, fun i j => FCmp_any i j (193 + 193) (by omega) (div_bd X1) (div_bd Y1) (div_bd X2) (div_bd Y2), fun i j => FCmp_any i j 193 (by omega) hr2 hs hx4 hx5, ?_⟩⟩
  · exact if_pos (show s < I63 by unfold I63; omega)
  · exact decide_eq_true (show s < I63 by unfold I63; omega)
  · rw [cmpI_red (Nat.gcd_dvd_left _ _) (Nat.gcd_dvd_right _ _) (Nat.gcd_dvd_left _ _) (Nat.gcd_dvd_right _ _) (Nat.gcd_pos_of_pos_right _ (Nat.mul_pos q0 hbe.pos)) (Nat.gcd_pos_of_pos_right _ (Nat.mul_pos q0 hx3)),
      show dst p q r s * (q * s2) = q * (dst p q r s * s2) from Nat.mul_left_comm .., show dst p q r2 s2 * (q * s) = q * (dst p q r2 s2 * s) from Nat.mul_left_comm .., cmpI_mul q0]
    have hB := hbe.best r2 s2 hx3 (by omega)
    rcases hB with g | ⟨g1, g2⟩
    · exact .inl (cmpI_lt g)
    · exact .inr ⟨by rw [g1]; exact cmpI_self _, g2⟩

/-- What the region of the two distances leaves. -/
def NearR (wo wx : World) (A1 B1 A2 B2 : Nat) (x y : Value) : Prop := ∃ (RA RB : Nat) (ao1 ao2 ao3 ao4 : Option Addr) (k1 cap1 k2 cap2 k3 cap3 k4 cap4 : Nat), x = .pointer (some ⟨RA, 0, none⟩) ∧ y = .pointer (some ⟨RB, 0, none⟩) ∧
  wx.cell? ⟨RA, 0, none⟩ = some (.slice ao1 k1 cap1) ∧ wx.cell? ⟨RA, 1, none⟩ = some (.slice ao2 k2 cap2) ∧ wx.cell? ⟨RB, 0, none⟩ = some (.slice ao3 k3 cap3) ∧ wx.cell? ⟨RB, 1, none⟩ = some (.slice ao4 k4 cap4) ∧
  IsF wx (.agg #[.slice ao1 k1 cap1, .slice ao2 k2 cap2]) A1 B1 ∧ IsF wx (.agg #[.slice ao3 k3 cap3, .slice ao4 k4 cap4]) A2 B2 ∧ Below wo.heap.size wo wx
abbrev ZB : Obj := .cells #[.slice none 0 0, .slice none 0 0] 50
theorem box1 {X W : World} (bb : Below (X.alloc ZB).heap.size (X.alloc ZB) W) : Fx W X.heap.size (.slice none 0 0) (.slice none 0 0) := (prof X _ _).2.below bb
theorem box1d {X W : World} (bb : Below (X.alloc ZB).drew.heap.size (X.alloc ZB).drew W) : Fx W X.heap.size (.slice none 0 0) (.slice none 0 0) := ((prof X (.slice none 0 0) (.slice none 0 0)).2.below (Below.refl _ _).drew).below bb
theorem carry1 {X W : World} (bb : Below (X.alloc ZB).heap.size (X.alloc ZB) W) : Below X.heap.size X W := nextB (prof X _ _).1 bb
theorem carry2 {X W : World} (bb : Below ((X.alloc ZB).alloc ZB).heap.size ((X.alloc ZB).alloc ZB) W) : Below X.heap.size X W := carry1 (carry1 bb)
theorem box2a {X W : World} (bb : Below ((X.alloc ZB).alloc ZB).heap.size ((X.alloc ZB).alloc ZB) W) : Fx W X.heap.size (.slice none 0 0) (.slice none 0 0) := box1 (carry1 bb)
theorem box2b {X W : World} (bb : Below ((X.alloc ZB).alloc ZB).heap.size ((X.alloc ZB).alloc ZB) W) : Fx W (X.heap.size + 1) (.slice none 0 0) (.slice none 0 0) := by
  have h := box1 bb
  rwa [show (X.alloc ZB).heap.size = X.heap.size + 1 by simp] at h
theorem box2ad {X W : World} (bb : Below ((X.alloc ZB).alloc ZB).drew.heap.size ((X.alloc ZB).alloc ZB).drew W) : Fx W X.heap.size (.slice none 0 0) (.slice none 0 0) := ((prof X (.slice none 0 0) (.slice none 0 0)).2.below (Below.drew (prof (X.alloc ZB) _ _).1)).below bb
theorem box2bd {X W : World} (bb : Below ((X.alloc ZB).alloc ZB).drew.heap.size ((X.alloc ZB).alloc ZB).drew W) : Fx W (X.heap.size + 1) (.slice none 0 0) (.slice none 0 0) := by
  have h := box1d bb
  rwa [show (X.alloc ZB).heap.size = X.heap.size + 1 by simp] at h
theorem Fx.le {w : World} {R : Nat} {s t : Value} (h : Fx w R s t) : R ≠ w.heap.size := Nat.ne_of_lt h.lt
theorem near_keep {wo W : World} {R1 R2 R3 : Nat} {a b c d e f : Value} (hk : Below wo.heap.size wo W) (l1 : R1 < wo.heap.size) (l2 : R2 < wo.heap.size) (l3 : R3 < wo.heap.size)
    (c0 : wo.cell? ⟨R1, 0, none⟩ = some a) (c1 : wo.cell? ⟨R1, 1, none⟩ = some b) (c2 : wo.cell? ⟨R2, 0, none⟩ = some c) (c3 : wo.cell? ⟨R2, 1, none⟩ = some d) (c4 : wo.cell? ⟨R3, 0, none⟩ = some e) (c5 : wo.cell? ⟨R3, 1, none⟩ = some f) :
    W.cell? ⟨R1, 0, none⟩ = some a ∧ W.cell? ⟨R1, 1, none⟩ = some b ∧ W.cell? ⟨R2, 0, none⟩ = some c ∧ W.cell? ⟨R2, 1, none⟩ = some d ∧ W.cell? ⟨R3, 0, none⟩ = some e ∧ W.cell? ⟨R3, 1, none⟩ = some f ∧ Below wo.heap.size wo W :=
  ⟨(hk.cell (p := ⟨R1, 0, none⟩) l1).trans c0, (hk.cell (p := ⟨R1, 1, none⟩) l1).trans c1, (hk.cell (p := ⟨R2, 0, none⟩) l2).trans c2, (hk.cell (p := ⟨R2, 1, none⟩) l2).trans c3, (hk.cell (p := ⟨R3, 0, none⟩) l3).trans c4, (hk.cell (p := ⟨R3, 1, none⟩) l3).trans c5, hk⟩
theorem near_2 {wo wr : World} {A1 B1 A2 B2 : Nat} {a b c d : Option Addr} {i i' j j' k k' l l' : Nat} (D : Below wo.heap.size wo wr) (h1 : IsF wr (.agg #[.slice a i i', .slice b j j']) A1 B1) (h2 : IsF wr (.agg #[.slice c k k', .slice d l l']) A2 B2) :
    NearR wo ((wr.alloc (.cells #[.slice a i i', .slice b j j'] 50)).alloc (.cells #[.slice c k k', .slice d l l'] 50)) A1 B1 A2 B2 (.pointer (some ⟨wr.heap.size, 0, none⟩)) (.pointer (some ⟨wr.heap.size + 1, 0, none⟩)) := by
  obtain ⟨b1, k1⟩ := prof wr (.slice a i i') (.slice b j j')
  obtain ⟨b2, k2⟩ := prof (wr.alloc (.cells #[.slice a i i', .slice b j j'] 50)) (.slice c k k') (.slice d l l')
  rw [show (wr.alloc (.cells #[.slice a i i', .slice b j j'] 50)).heap.size = wr.heap.size + 1 by simp] at k2
  exact ⟨_, _, _, _, _, _, _, _, _, _, _, _, _, _, rfl, rfl, (k1.below b2).cell0, (k1.below b2).cell1, k2.cell0, k2.cell1, (h1.below b1).below b2, (h2.below b1).below b2, nextB (nextB D b1) b2⟩
theorem near_2' {wo wr : World} {A1 B1 A2 B2 : Nat} {a b c d : Option Addr} {i i' j j' k k' l l' : Nat} (D : Below wo.heap.size wo wr) (h1 : IsF wr (.agg #[.slice a i i', .slice b j j']) A1 B1) (h2 : IsF wr (.agg #[.slice c k k', .slice d l l']) A2 B2) :
    NearR wo ((wr.alloc (.cells #[.slice c k k', .slice d l l'] 50)).alloc (.cells #[.slice a i i', .slice b j j'] 50)) A1 B1 A2 B2 (.pointer (some ⟨wr.heap.size + 1, 0, none⟩)) (.pointer (some ⟨wr.heap.size, 0, none⟩)) := by
  obtain ⟨b1, k1⟩ := prof wr (.slice c k k') (.slice d l l')
  obtain ⟨b2, k2⟩ := prof (wr.alloc (.cells #[.slice c k k', .slice d l l'] 50)) (.slice a i i') (.slice b j j')
  rw [show (wr.alloc (.cells #[.slice c k k', .slice d l l'] 50)).heap.size = wr.heap.size + 1 by simp] at k2
  exact ⟨_, _, _, _, _, _, _, _, _, _, _, _, _, _, rfl, rfl, k2.cell0, k2.cell1, (k1.below b2).cell0, (k1.below b2).cell1, (h1.below b1).below b2, (h2.below b1).below b2, nextB (nextB D b1) b2⟩
abbrev NS : Value := .slice none 0 0
theorem IsF.setB {w : World} {a b c d : Option Addr} {i i' j j' k k' l l' n m R : Nat} (h : IsF w (.agg #[.slice a i i', .slice b j j']) n m) (q : Fx w R (.slice c k k') (.slice d l l')) (p : Nat) (v : Value) : IsF (w.setCell ⟨R, p, none⟩ v) (.agg #[.slice a i i', .slice b j j']) n m := by
  obtain ⟨x, y, e, h1, h2, h3⟩ := h
  obtain ⟨rfl, rfl⟩ : .slice a i i' = x ∧ .slice b j j' = y := by simpa using e
  exact IsF.of (h1.setF q NoInt.two p v) (h2.setF q NoInt.two p v) h3
theorem near_1 {wo wr : World} {A1 B1 A2 B2 R : Nat} {a b c d : Option Addr} {i i' j j' k k' l l' : Nat} (D : Below wo.heap.size wo wr) (h1 : IsF wr (.agg #[.slice a i i', .slice b j j']) A1 B1) (h2 : IsF wr (.agg #[.slice c k k', .slice d l l']) A2 B2)
    (q : Fx wr R NS NS) (hR : wo.heap.size ≤ R) :
    NearR wo (((wr.setCell ⟨R, 0, none⟩ (.slice a i i')).setCell ⟨R, 1, none⟩ (.slice b j j')).alloc (.cells #[.slice c k k', .slice d l l'] 50)) A1 B1 A2 B2 (.pointer (some ⟨R, 0, none⟩)) (.pointer (some ⟨wr.heap.size, 0, none⟩)) := by
  have q1 := q.set0 (.slice a i i')
  have q2 := q1.set1 (.slice b j j')
  have g1 := (h1.setB q 0 (.slice a i i')).setB q1 1 (.slice b j j')
  have g2 := (h2.setB q 0 (.slice a i i')).setB q1 1 (.slice b j j')
  obtain ⟨b2, k2⟩ := prof ((wr.setCell ⟨R, 0, none⟩ (.slice a i i')).setCell ⟨R, 1, none⟩ (.slice b j j')) (.slice c k k') (.slice d l l')
  rw [show ((wr.setCell ⟨R, 0, none⟩ (.slice a i i')).setCell ⟨R, 1, none⟩ (.slice b j j')).heap.size = wr.heap.size by simp] at k2
  exact ⟨_, _, _, _, _, _, _, _, _, _, _, _, _, _, rfl, rfl, (q2.below b2).cell0, (q2.below b2).cell1, k2.cell0, k2.cell1, g1.below b2, g2.below b2, nextB ((D.setCell (p := ⟨R, 0, none⟩) hR _).setCell (p := ⟨R, 1, none⟩) hR _) b2⟩
theorem near_1' {wo wr : World} {A1 B1 A2 B2 R : Nat} {a b c d : Option Addr} {i i' j j' k k' l l' : Nat} (D : Below wo.heap.size wo wr) (h1 : IsF wr (.agg #[.slice a i i', .slice b j j']) A1 B1) (h2 : IsF wr (.agg #[.slice c k k', .slice d l l']) A2 B2)
    (q : Fx wr R NS NS) (hR : wo.heap.size ≤ R) :
    NearR wo (((wr.setCell ⟨R, 0, none⟩ (.slice c k k')).setCell ⟨R, 1, none⟩ (.slice d l l')).alloc (.cells #[.slice a i i', .slice b j j'] 50)) A1 B1 A2 B2 (.pointer (some ⟨wr.heap.size, 0, none⟩)) (.pointer (some ⟨R, 0, none⟩)) := by
  have q1 := q.set0 (.slice c k k')
  have q2 := q1.set1 (.slice d l l')
  have g1 := (h1.setB q 0 (.slice c k k')).setB q1 1 (.slice d l l')
  have g2 := (h2.setB q 0 (.slice c k k')).setB q1 1 (.slice d l l')
  obtain ⟨b2, k2⟩ := prof ((wr.setCell ⟨R, 0, none⟩ (.slice c k k')).setCell ⟨R, 1, none⟩ (.slice d l l')) (.slice a i i') (.slice b j j')
  rw [show ((wr.setCell ⟨R, 0, none⟩ (.slice c k k')).setCell ⟨R, 1, none⟩ (.slice d l l')).heap.size = wr.heap.size by simp] at k2
  exact ⟨_, _, _, _, _, _, _, _, _, _, _, _, _, _, rfl, rfl, k2.cell0, k2.cell1, (q2.below b2).cell0, (q2.below b2).cell1, g1.below b2, g2.below b2, nextB ((D.setCell (p := ⟨R, 0, none⟩) hR _).setCell (p := ⟨R, 1, none⟩) hR _) b2⟩
theorem near_0 {wo wr : World} {A1 B1 A2 B2 R R' : Nat} {a b c d : Option Addr} {i i' j j' k k' l l' : Nat} (D : Below wo.heap.size wo wr) (h1 : IsF wr (.agg #[.slice a i i', .slice b j j']) A1 B1) (h2 : IsF wr (.agg #[.slice c k k', .slice d l l']) A2 B2)
    (q : Fx wr R NS NS) (p : Fx wr R' NS NS) (hR : wo.heap.size ≤ R) (hR' : wo.heap.size ≤ R') (hne : R ≠ R') :
    NearR wo ((((wr.setCell ⟨R, 0, none⟩ (.slice a i i')).setCell ⟨R, 1, none⟩ (.slice b j j')).setCell ⟨R', 0, none⟩ (.slice c k k')).setCell ⟨R', 1, none⟩ (.slice d l l')) A1 B1 A2 B2 (.pointer (some ⟨R, 0, none⟩)) (.pointer (some ⟨R', 0, none⟩)) := by
  have q1 := q.set0 (.slice a i i')
  have q2 := q1.set1 (.slice b j j')
  have p1 := (p.setO (Ne.symm hne) 0 (.slice a i i')).setO (Ne.symm hne) 1 (.slice b j j')
  have p2 := p1.set0 (.slice c k k')
  have p3 := p2.set1 (.slice d l l')
  have q3 := (q2.setO hne 0 (.slice c k k')).setO hne 1 (.slice d l l')
  have g1 := (((h1.setB q 0 (.slice a i i')).setB q1 1 (.slice b j j')).setB p1 0 (.slice c k k')).setB p2 1 (.slice d l l')
  have g2 := (((h2.setB q 0 (.slice a i i')).setB q1 1 (.slice b j j')).setB p1 0 (.slice c k k')).setB p2 1 (.slice d l l')
  exact ⟨_, _, _, _, _, _, _, _, _, _, _, _, _, _, rfl, rfl, q3.cell0, q3.cell1, p3.cell0, p3.cell1, g1, g2, (((D.setCell (p := ⟨R, 0, none⟩) hR _).setCell (p := ⟨R, 1, none⟩) hR _).setCell (p := ⟨R', 0, none⟩) hR' _).setCell (p := ⟨R', 1, none⟩) hR' _⟩

set_option maxHeartbeats 32000000 in
set_option maxRecDepth 100000 in
theorem NatNearest_walk (va : Value) (vb : Value) (most : Int) (num : Int) (den : Int) (w : World) (ia : In16 w va) (ib : In16 w vb) (hmostr : -9223372036854775808 ≤ most ∧ most ≤ 9223372036854775807) (hnumr : -9223372036854775808 ≤ num ∧ num ≤ 9223372036854775807) (hdenr : -9223372036854775808 ≤ den ∧ den ≤ 9223372036854775807) :
    Calls Try.prog 27 #[va, vb, .int .i64 most, .int .i64 num, .int .i64 den] w (RetB w true) := by
  have hB := Below.refl w.heap.size w
  go_enter Try.func27, Try.ntmps27
  go_wp2_with fail
  refine (half_any ia ib 12 (by omega) (by omega)).mono ?_
  rintro e w1 ⟨ok1, p1, q1, v_, aog1, aoh1, kg1, capg1, kh1, caph1, rfl, HH1, jf, jg, b⟩
  clear jg
  replace hB := nextB hB b
  replace ia := ia.below b
  replace ib := ib.below b
  clear b
  replace HH1 := Lib.hid HH1.out
  have ff1 := jf
  obtain ⟨aof1, qf1, capf1, aof12, qf12, capf12, rfl, -, -, -⟩ := ff1.slice
  clear jf
  clear ia ib
  cases ok1
  · obtain ⟨b, kf1, kf12⟩ := profg w1 (.slice aof1 qf1 capf1) (.slice aof12 qf12 capf12) (.slice aog1 kg1 capg1) (.slice aoh1 kh1 caph1)
    obtain ⟨Rf1, hRf1⟩ : ∃ R, R = w1.heap.size := ⟨_, rfl⟩
    have cc0 := kf1.cell0
    have cc1 := kf1.cell1
    have cc2 := kf12.cell0
    have cc3 := kf12.cell1
    go_wp2_with fail
    obtain ⟨w2, hw⟩ : ∃ w_ : World, w_ = ((w1.alloc (.cells #[.slice aof1 qf1 capf1, .slice aof12 qf12 capf12] 50)).alloc (.cells #[.slice aog1 kg1 capg1, .slice aoh1 kh1 caph1] 55)) := ⟨_, rfl⟩
    rw [← hw] at b kf1 kf12 ⊢
    rw [← hRf1] at kf1 kf12 ⊢
    clear hw hRf1 cc0 cc1 cc2 cc3
    replace hB := nextB hB b
    replace ff1 := ff1.below b
    clear b
    clear kf12
    refine (awake_any _).mono ?_
    rintro e w3 ⟨rfl, b⟩
    replace hB := nextB hB b
    replace ff1 := ff1.below b
    replace kf1 := kf1.below b
    clear b
    go_wp2
    go_ret
    exact ⟨rfl, hB⟩
  · by_cases h_ : most < 1
    · obtain ⟨b, kf1, kf12⟩ := profg w1 (.slice aof1 qf1 capf1) (.slice aof12 qf12 capf12) (.slice aog1 kg1 capg1) (.slice aoh1 kh1 caph1)
      obtain ⟨Rf1, hRf1⟩ : ∃ R, R = w1.heap.size := ⟨_, rfl⟩
      have cc0 := kf1.cell0
      have cc1 := kf1.cell1
      have cc2 := kf12.cell0
      have cc3 := kf12.cell1
      go_wp2_with fail
      obtain ⟨w2, hw⟩ : ∃ w_ : World, w_ = ((w1.alloc (.cells #[.slice aof1 qf1 capf1, .slice aof12 qf12 capf12] 50)).alloc (.cells #[.slice aog1 kg1 capg1, .slice aoh1 kh1 caph1] 55)) := ⟨_, rfl⟩
      rw [← hw] at b kf1 kf12 ⊢
      rw [← hRf1] at kf1 kf12 ⊢
      clear hw hRf1 cc0 cc1 cc2 cc3
      replace hB := nextB hB b
      replace ff1 := ff1.below b
      clear b
      clear kf12
      refine (awake_any _).mono ?_
      rintro e w3 ⟨rfl, b⟩
      replace hB := nextB hB b
      replace ff1 := ff1.below b
      replace kf1 := kf1.below b
      clear b
      go_wp2
      go_ret
      exact ⟨rfl, hB⟩
    have hA := h_
    have hAd : decide (most < 1) = false := decide_eq_false h_
    clear h_
    by_cases h_ : den < 1
    · obtain ⟨b, kf1, kf12⟩ := profg w1 (.slice aof1 qf1 capf1) (.slice aof12 qf12 capf12) (.slice aog1 kg1 capg1) (.slice aoh1 kh1 caph1)
      obtain ⟨Rf1, hRf1⟩ : ∃ R, R = w1.heap.size := ⟨_, rfl⟩
      have cc0 := kf1.cell0
      have cc1 := kf1.cell1
      have cc2 := kf12.cell0
      have cc3 := kf12.cell1
      go_wp2_with fail
      obtain ⟨w2, hw⟩ : ∃ w_ : World, w_ = ((w1.alloc (.cells #[.slice aof1 qf1 capf1, .slice aof12 qf12 capf12] 50)).alloc (.cells #[.slice aog1 kg1 capg1, .slice aoh1 kh1 caph1] 55)) := ⟨_, rfl⟩
      rw [← hw] at b kf1 kf12 ⊢
      rw [← hRf1] at kf1 kf12 ⊢
      clear hw hRf1 cc0 cc1 cc2 cc3
      replace hB := nextB hB b
      replace ff1 := ff1.below b
      clear b
      clear kf12
      refine (awake_any _).mono ?_
      rintro e w3 ⟨rfl, b⟩
      replace hB := nextB hB b
      replace ff1 := ff1.below b
      replace kf1 := kf1.below b
      clear b
      go_wp2
      go_ret
      exact ⟨rfl, hB⟩
    have hBd := h_
    have hBdd : decide (den < 1) = false := decide_eq_false h_
    clear h_
    by_cases h_ : most < den
    · obtain ⟨b, kf1, kf12⟩ := profg w1 (.slice aof1 qf1 capf1) (.slice aof12 qf12 capf12) (.slice aog1 kg1 capg1) (.slice aoh1 kh1 caph1)
      obtain ⟨Rf1, hRf1⟩ : ∃ R, R = w1.heap.size := ⟨_, rfl⟩
      have cc0 := kf1.cell0
      have cc1 := kf1.cell1
      have cc2 := kf12.cell0
      have cc3 := kf12.cell1
      go_wp2_with fail
      obtain ⟨w2, hw⟩ : ∃ w_ : World, w_ = ((w1.alloc (.cells #[.slice aof1 qf1 capf1, .slice aof12 qf12 capf12] 50)).alloc (.cells #[.slice aog1 kg1 capg1, .slice aoh1 kh1 caph1] 55)) := ⟨_, rfl⟩
      rw [← hw] at b kf1 kf12 ⊢
      rw [← hRf1] at kf1 kf12 ⊢
      clear hw hRf1 cc0 cc1 cc2 cc3
      replace hB := nextB hB b
      replace ff1 := ff1.below b
      clear b
      clear kf12
      refine (awake_any _).mono ?_
      rintro e w3 ⟨rfl, b⟩
      replace hB := nextB hB b
      replace ff1 := ff1.below b
      replace kf1 := kf1.below b
      clear b
      go_wp2
      go_ret
      exact ⟨rfl, hB⟩
    have hC_ := h_
    have hC_d : decide (most < den) = false := decide_eq_false h_
    clear h_
    by_cases h_ : num < 0
    · obtain ⟨b, kf1, kf12⟩ := profg w1 (.slice aof1 qf1 capf1) (.slice aof12 qf12 capf12) (.slice aog1 kg1 capg1) (.slice aoh1 kh1 caph1)
      obtain ⟨Rf1, hRf1⟩ : ∃ R, R = w1.heap.size := ⟨_, rfl⟩
      have cc0 := kf1.cell0
      have cc1 := kf1.cell1
      have cc2 := kf12.cell0
      have cc3 := kf12.cell1
      go_wp2_with fail
      obtain ⟨w2, hw⟩ : ∃ w_ : World, w_ = ((w1.alloc (.cells #[.slice aof1 qf1 capf1, .slice aof12 qf12 capf12] 50)).alloc (.cells #[.slice aog1 kg1 capg1, .slice aoh1 kh1 caph1] 55)) := ⟨_, rfl⟩
      rw [← hw] at b kf1 kf12 ⊢
      rw [← hRf1] at kf1 kf12 ⊢
      clear hw hRf1 cc0 cc1 cc2 cc3
      replace hB := nextB hB b
      replace ff1 := ff1.below b
      clear b
      clear kf12
      refine (awake_any _).mono ?_
      rintro e w3 ⟨rfl, b⟩
      replace hB := nextB hB b
      replace ff1 := ff1.below b
      replace kf1 := kf1.below b
      clear b
      go_wp2
      go_ret
      exact ⟨rfl, hB⟩
    have hD_ := h_
    have hD_d : decide (num < 0) = false := decide_eq_false h_
    clear h_
    obtain ⟨M, rfl⟩ := Int.eq_ofNat_of_zero_le (show 0 ≤ most by omega)
    obtain ⟨dn, rfl⟩ := Int.eq_ofNat_of_zero_le (show 0 ≤ den by omega)
    obtain ⟨nm, rfl⟩ := Int.eq_ofNat_of_zero_le (show 0 ≤ num by omega)
    have hM1 : 1 ≤ M := by omega
    have hM2 : M < 9223372036854775808 := by omega
    have hd1 : 0 < dn := by omega
    have hd2 : dn ≤ M := by omega
    have hn2 : nm < 9223372036854775808 := by omega
    have hdn2 : dn < 9223372036854775808 := by omega
    have HM2 := Lib.hid hM2
    have HL := Lib.hid HH1.out
    have HX := Lib.hid (near_ot hn2 hdn2 hd1)
    have HD2 := Lib.hid hd2
    have HD1 := Lib.hid hd1
    have HNw := Lib.hid (fun w_ => New_any nm hn2 (w := w_))
    have HDw := Lib.hid (fun w_ => New_any dn hdn2 (w := w_))
    clear hA hBd hC_ hD_ hmostr hnumr hdenr hd1 hd2 hn2 hdn2
    obtain ⟨b, kf1, kf12⟩ := profg w1 (.slice aof1 qf1 capf1) (.slice aof12 qf12 capf12) (.slice aog1 kg1 capg1) (.slice aoh1 kh1 caph1)
    obtain ⟨Rf1, hRf1⟩ : ∃ R, R = w1.heap.size := ⟨_, rfl⟩
    have cc0 := kf1.cell0
    have cc1 := kf1.cell1
    have cc2 := kf12.cell0
    have cc3 := kf12.cell1
    go_wp2_with fail
    obtain ⟨w2, hw⟩ : ∃ w_ : World, w_ = ((w1.alloc (.cells #[.slice aof1 qf1 capf1, .slice aof12 qf12 capf12] 50)).alloc (.cells #[.slice aog1 kg1 capg1, .slice aoh1 kh1 caph1] 55)) := ⟨_, rfl⟩
    rw [← hw] at b kf1 kf12 ⊢
    rw [← hRf1] at kf1 kf12 ⊢
    clear hw hRf1 cc0 cc1 cc2 cc3
    replace hB := nextB hB b
    replace ff1 := ff1.below b
    clear b
    clear kf12
    refine (Best_any ff1 HL.out.2.1 hM1 hM2 192 (by omega) HL.out.2.2.1 HL.out.2.2.2).mono ?_
    rintro e w3 ⟨r, s, hb_, v_, rfl, j_, b⟩
    have HBe := Lib.hid hb_.out
    clear hb_
    replace hB := nextB hB b
    replace ff1 := ff1.below b
    replace kf1 := kf1.below b
    clear b
    clear hM1 hM2
    have fg := j_
    obtain ⟨aog, qg, capg, aog2, qg2, capg2, rfl, -, -, -⟩ := fg.slice
    clear j_
    obtain ⟨b, kg⟩ := prof w3 (.slice aog qg capg) (.slice aog2 qg2 capg2)
    obtain ⟨Rg, hRg⟩ : ∃ R, R = w3.heap.size := ⟨_, rfl⟩
    have hleg : w.heap.size ≤ Rg := by rw [hRg]; exact hB.size
    have cc0 := (kf1.below b).cell0
    have cc1 := (kf1.below b).cell1
    have cc2 := kg.cell0
    have cc3 := kg.cell1
    go_wp2_with fail
    obtain ⟨w4, hw⟩ : ∃ w_ : World, w_ = (w3.alloc (.cells #[.slice aog qg capg, .slice aog2 qg2 capg2] 50)) := ⟨_, rfl⟩
    rw [← hw] at b kg ⊢
    rw [← hRg] at kg ⊢
    clear hw hRg cc0 cc1 cc2 cc3
    replace hB := nextB hB b
    replace ff1 := ff1.below b
    replace kf1 := kf1.below b
    replace fg := fg.below b
    clear b
    refine (HNw.out _).mono ?_
    rintro e w5 ⟨v_, rfl, j_, b⟩
    rw [if_pos rfl] at j_
    replace hB := nextB hB b
    replace ff1 := ff1.below b
    replace kf1 := kf1.below b
    replace fg := fg.below b
    replace kg := kg.below b
    clear b
    obtain ⟨aon, qn, capn, rfl, xn⟩ := j_.slice
    clear j_
    obtain ⟨b, kn⟩ := pro1 w5 (.slice aon qn capn)
    obtain ⟨Rn, hRn⟩ : ∃ R, R = w5.heap.size := ⟨_, rfl⟩
    have cc0 := (kf1.below b).cell0
    have cc1 := (kf1.below b).cell1
    have cc2 := (kg.below b).cell0
    have cc3 := (kg.below b).cell1
    have cc4 := kn.cell
    go_wp2_with fail
    obtain ⟨w6, hw⟩ : ∃ w_ : World, w_ = (w5.alloc (.cells #[.slice aon qn capn] 25)) := ⟨_, rfl⟩
    rw [← hw] at b kn ⊢
    rw [← hRn] at kn ⊢
    clear hw hRn cc0 cc1 cc2 cc3 cc4
    replace hB := nextB hB b
    replace ff1 := ff1.below b
    replace kf1 := kf1.below b
    replace fg := fg.below b
    replace kg := kg.below b
    replace xn := xn.below b
    clear b
    refine (HDw.out _).mono ?_
    rintro e w7 ⟨v_, rfl, j_, b⟩
    rw [if_pos rfl] at j_
    replace hB := nextB hB b
    replace ff1 := ff1.below b
    replace kf1 := kf1.below b
    replace fg := fg.below b
    replace kg := kg.below b
    replace xn := xn.below b
    replace kn := kn.below b
    clear b
    obtain ⟨aod, qd, capd, rfl, xd⟩ := j_.slice
    clear j_
    obtain ⟨b, kd⟩ := pro1 w7 (.slice aod qd capd)
    obtain ⟨Rd, hRd⟩ : ∃ R, R = w7.heap.size := ⟨_, rfl⟩
    have cc0 := (kf1.below b).cell0
    have cc1 := (kf1.below b).cell1
    have cc2 := (kg.below b).cell0
    have cc3 := (kg.below b).cell1
    have cc4 := (kn.below b).cell
    have cc5 := kd.cell
    go_wp2_with fail
    obtain ⟨w8, hw⟩ : ∃ w_ : World, w_ = (w7.alloc (.cells #[.slice aod qd capd] 25)) := ⟨_, rfl⟩
    rw [← hw] at b kd ⊢
    rw [← hRd] at kd ⊢
    clear hw hRd cc0 cc1 cc2 cc3 cc4 cc5
    replace hB := nextB hB b
    replace ff1 := ff1.below b
    replace kf1 := kf1.below b
    replace fg := fg.below b
    replace kg := kg.below b
    replace xn := xn.below b
    replace kn := kn.below b
    replace xd := xd.below b
    clear b
    refine (NewFrac_any ⟨_, rfl, xn⟩ ⟨_, rfl, xd⟩ HD1.out 64 (by omega) HX.out.1 HX.out.2.1).mono ?_
    rintro e w9 ⟨v_, rfl, j_, b⟩
    rw [if_pos rfl, if_pos rfl] at j_
    replace hB := nextB hB b
    replace ff1 := ff1.below b
    replace kf1 := kf1.below b
    replace fg := fg.below b
    replace kg := kg.below b
    replace xn := xn.below b
    replace kn := kn.below b
    replace xd := xd.below b
    replace kd := kd.below b
    clear b
    have HNC := Lib.hid (nearC HL.out HBe.out HM2.out HX.out HD2.out)
    generalize nm / Nat.gcd nm dn = r2 at *
    generalize dn / Nat.gcd nm dn = s2 at *
    have fo := j_
    obtain ⟨aoo, qo, capo, aoo2, qo2, capo2, rfl, -, -, -⟩ := fo.slice
    clear j_
    obtain ⟨b, ko⟩ := prof w9 (.slice aoo qo capo) (.slice aoo2 qo2 capo2)
    obtain ⟨Ro, hRo⟩ : ∃ R, R = w9.heap.size := ⟨_, rfl⟩
    have hleo : w.heap.size ≤ Ro := by rw [hRo]; exact hB.size
    have cc0 := (kf1.below b).cell0
    have cc1 := (kf1.below b).cell1
    have cc2 := (kg.below b).cell0
    have cc3 := (kg.below b).cell1
    have cc4 := (kn.below b).cell
    have cc5 := (kd.below b).cell
    have cc6 := ko.cell0
    have cc7 := ko.cell1
    go_wp2_with fail
    obtain ⟨w10, hw⟩ : ∃ w_ : World, w_ = (w9.alloc (.cells #[.slice aoo qo capo, .slice aoo2 qo2 capo2] 50)) := ⟨_, rfl⟩
    rw [← hw] at b ko ⊢
    rw [← hRo] at ko ⊢
    clear hw hRo cc0 cc1 cc2 cc3 cc4 cc5 cc6 cc7
    replace hB := nextB hB b
    replace ff1 := ff1.below b
    replace kf1 := kf1.below b
    replace fg := fg.below b
    replace kg := kg.below b
    replace xn := xn.below b
    replace kn := kn.below b
    replace xd := xd.below b
    replace kd := kd.below b
    replace fo := fo.below b
    clear b
    clear xn xd kn kd
    obtain ⟨A1, B1, A2, B2, z, HC_⟩ := HNC.out
    have HC := Lib.hid HC_
    clear HC_ HNC
    refine (FDen_any fg 193 (by omega) HC.out.bs).mono ?_
    rintro e w11 ⟨v1, rfl, i1, b⟩
    replace hB := nextB hB b
    replace ff1 := ff1.below b
    replace kf1 := kf1.below b
    replace fg := fg.below b
    replace kg := kg.below b
    replace fo := fo.below b
    replace ko := ko.below b
    clear b
    have hsm : decide ((M : Int) < (s : Int)) = false := decide_eq_false (by have := HC.out.sM; omega)
    have hsn := HC.out.sM
    have cc0 := kf1.cell0
    have cc1 := kf1.cell1
    have cc2 := kg.cell0
    have cc3 := kg.cell1
    have cc4 := ko.cell0
    have cc5 := ko.cell1
    go_wp2_with fail
    clear cc0 cc1 cc2 cc3 cc4 cc5
    refine (Int_any i1 193 (by omega) HC.out.bs).mono ?_
    rintro e w12 ⟨rfl, b⟩
    rw [HC.out.sI, HC.out.sB]
    replace hB := nextB hB b
    replace ff1 := ff1.below b
    replace kf1 := kf1.below b
    replace fg := fg.below b
    replace kg := kg.below b
    replace fo := fo.below b
    replace ko := ko.below b
    replace i1 := i1.below b
    clear b
    clear i1
    obtain ⟨wo, hwo⟩ : ∃ wo : World, wo = w12 := ⟨_, rfl⟩
    rw [← hwo] at hB ff1 kf1 fg kg fo ko ⊢
    clear hwo
    have cc0 := kf1.cell0
    have cc1 := kf1.cell1
    have cc2 := kg.cell0
    have cc3 := kg.cell1
    have cc4 := ko.cell0
    have cc5 := ko.cell1
    have ltf := kf1.lt
    have ltg := kg.lt
    have lto := ko.lt
    go_upto_region 11 with fail
    go_cut [24, 25] (fun x y wx => NearR wo wx A1 B1 A2 B2 x y)
    case first =>
      go_region_held3 (fun w' => w'.cell? ⟨Rf1, 0, none⟩ = some (.slice aof1 qf1 capf1) ∧ w'.cell? ⟨Rf1, 1, none⟩ = some (.slice aof12 qf12 capf12) ∧ w'.cell? ⟨Rg, 0, none⟩ = some (.slice aog qg capg) ∧ w'.cell? ⟨Rg, 1, none⟩ = some (.slice aog2 qg2 capg2) ∧ w'.cell? ⟨Ro, 0, none⟩ = some (.slice aoo qo capo) ∧ w'.cell? ⟨Ro, 1, none⟩ = some (.slice aoo2 qo2 capo2) ∧ Below wo.heap.size wo w')
        (first
          | (with_reducible exact ⟨cc0, cc1, cc2, cc3, cc4, cc5, (Below.refl _ _).drew⟩)
          | (go_split_ands; with_reducible exact ⟨by assumption, by assumption, by assumption, by assumption, by assumption, by assumption, by assumption⟩)
          | (go_split_ands; have hk := D1; with_reducible exact ⟨(hk.cell (p := ⟨Rf1, 0, none⟩) ltf).trans cc0, (hk.cell (p := ⟨Rf1, 1, none⟩) ltf).trans cc1, (hk.cell (p := ⟨Rg, 0, none⟩) ltg).trans cc2, (hk.cell (p := ⟨Rg, 1, none⟩) ltg).trans cc3, (hk.cell (p := ⟨Ro, 0, none⟩) lto).trans cc4, (hk.cell (p := ⟨Ro, 1, none⟩) lto).trans cc5, hk⟩)
          | (go_split_ands; have hk := D2; with_reducible exact ⟨(hk.cell (p := ⟨Rf1, 0, none⟩) ltf).trans cc0, (hk.cell (p := ⟨Rf1, 1, none⟩) ltf).trans cc1, (hk.cell (p := ⟨Rg, 0, none⟩) ltg).trans cc2, (hk.cell (p := ⟨Rg, 1, none⟩) ltg).trans cc3, (hk.cell (p := ⟨Ro, 0, none⟩) lto).trans cc4, (hk.cell (p := ⟨Ro, 1, none⟩) lto).trans cc5, hk⟩)
          | (go_split_ands; (with_reducible refine near_keep (wo := wo) ?_ ltf ltg lto cc0 cc1 cc2 cc3 cc4 cc5); (repeat (first | (with_reducible refine Below.setCell ?_ ?_ _) | (with_reducible refine Below.alloc ?_ ?_ _) | (with_reducible apply Below.drew) | (with_reducible assumption) | (with_reducible exact Below.refl _ _) | omega | (simp <;> omega)))))
        (first
          | (go_at_call 95; go_split_ands; (with_reducible refine (HC.out.a1 (ff1.below (by assumption)) (fg.below (by assumption))).mono ?_); rintro e wq ⟨v1, rfl, j1, bb⟩; obtain ⟨ao1, k1, cap1, ao2, k2, cap2, rfl, -, -, -⟩ := id j1.slice; have D1 := nextB (show Below wo.heap.size wo _ by assumption) bb; have y1 := D1.size; (first | ((with_reducible have bx1 := box2a bb); (with_reducible have bx2 := box2b bb)) | ((with_reducible have bx1 := box2ad bb); (with_reducible have bx2 := box2bd bb)) | ((with_reducible have bx1 := box1 bb)) | ((with_reducible have bx1 := box1d bb)) | skip); (try have ce1 := bx1.cell0); (try have ch1 := bx1.cell1); (try have cm1 := bx1.free0); (try have cp1 := bx1.free1); (try have cl1 := bx1.lt); (try have cz1 := Nat.lt_succ_of_lt bx1.lt); (try have ct1 := bx1.le); (try have ce2 := bx2.cell0); (try have ch2 := bx2.cell1); (try have cm2 := bx2.free0); (try have cp2 := bx2.free1); (try have cl2 := bx2.lt); (try have cz2 := Nat.lt_succ_of_lt bx2.lt); (try have ct2 := bx2.le))
          | (go_at_call 95; go_split_ands; (with_reducible refine (HC.out.a2 (ff1.below (by assumption)) (fo.below (by assumption))).mono ?_); rintro e wr ⟨v2, rfl, j2, bb2⟩; obtain ⟨ao3, k3, cap3, ao4, k4, cap4, rfl, -, -, -⟩ := id j2.slice; have D2 := nextB (show Below wo.heap.size wo _ by assumption) bb2; have y2 := D2.size; (first | (with_reducible have b12 := carry2 bb2) | (with_reducible have b12 := carry1 bb2) | have b12 := bb2); replace j1 := j1.below b12; (try replace bx1 := bx1.below b12); (try replace bx2 := bx2.below b12); (first | ((with_reducible have bx3 := box2a bb2); (with_reducible have bx4 := box2b bb2)) | ((with_reducible have bx3 := box1 bb2)) | skip); (try have ce1 := bx1.cell0); (try have ch1 := bx1.cell1); (try have cm1 := bx1.free0); (try have cp1 := bx1.free1); (try have cl1 := bx1.lt); (try have cz1 := Nat.lt_succ_of_lt bx1.lt); (try have ct1 := bx1.le); (try have ce2 := bx2.cell0); (try have ch2 := bx2.cell1); (try have cm2 := bx2.free0); (try have cp2 := bx2.free1); (try have cl2 := bx2.lt); (try have cz2 := Nat.lt_succ_of_lt bx2.lt); (try have ct2 := bx2.le); (try have ce3 := bx3.cell0); (try have ch3 := bx3.cell1); (try have cm3 := bx3.free0); (try have cp3 := bx3.free1); (try have cl3 := bx3.lt); (try have cz3 := Nat.lt_succ_of_lt bx3.lt); (try have ct3 := bx3.le); (try have ce4 := bx4.cell0); (try have ch4 := bx4.cell1); (try have cm4 := bx4.free0); (try have cp4 := bx4.free1); (try have cl4 := bx4.lt); (try have cz4 := Nat.lt_succ_of_lt bx4.lt); (try have ct4 := bx4.le)))
      all_goals (go_split_ands; go_wp2_with fail; go_meet)
      all_goals first
        | (with_reducible exact near_2 D2 j1 j2)
        | (with_reducible exact near_2' D2 j1 j2)
        | (with_reducible refine near_1 D2 j1 j2 bx1 ?_; omega)
        | (with_reducible refine near_1 D2 j1 j2 bx3 ?_; omega)
        | (with_reducible refine near_1' D2 j1 j2 bx1 ?_; omega)
        | (with_reducible refine near_1' D2 j1 j2 bx3 ?_; omega)
        | (with_reducible refine near_0 D2 j1 j2 bx1 bx2 ?_ ?_ ?_ <;> omega)
        | (with_reducible refine near_0 D2 j1 j2 bx2 bx1 ?_ ?_ ?_ <;> omega)
        | (with_reducible refine near_0 D2 j1 j2 bx1 bx3 ?_ ?_ ?_ <;> omega)
        | (with_reducible refine near_0 D2 j1 j2 bx3 bx1 ?_ ?_ ?_ <;> omega)
        | (with_reducible refine near_0 D2 j1 j2 bx3 bx4 ?_ ?_ ?_ <;> omega)
        | (with_reducible refine near_0 D2 j1 j2 bx4 bx3 ?_ ?_ ?_ <;> omega)
    case rest =>
      clear cc0 cc1 cc2 cc3 cc4 cc5 ltf ltg lto hsn
      obtain ⟨RA, RB, ao1, ao2, ao3, ao4, k1, cap1, k2, cap2, k3, cap3, k4, cap4, rfl, rfl, cA0, cA1, cB0, cB1, jx, jy, b⟩ := hcut
      replace hB := nextB hB b
      replace ff1 := ff1.below b
      replace kf1 := kf1.below b
      replace fg := fg.below b
      replace kg := kg.below b
      replace fo := fo.below b
      replace ko := ko.below b
      clear b
      rcases HC.out.z with hz | ⟨hz, hz2⟩
      all_goals subst hz
      · have cc0 := kf1.cell0
        have cc1 := kf1.cell1
        have cc2 := kg.cell0
        have cc3 := kg.cell1
        have cc4 := ko.cell0
        have cc5 := ko.cell1
        go_wp2_with fail
        clear cc0 cc1 cc2 cc3 cc4 cc5
        refine (HC.out.cm jx jy).mono ?_
        rintro e w13 ⟨rfl, b⟩
        replace hB := nextB hB b
        replace ff1 := ff1.below b
        replace kf1 := kf1.below b
        replace fg := fg.below b
        replace kg := kg.below b
        replace fo := fo.below b
        replace ko := ko.below b
        clear b
        have cc0 := kf1.cell0
        have cc1 := kf1.cell1
        have cc2 := kg.cell0
        have cc3 := kg.cell1
        have cc4 := ko.cell0
        have cc5 := ko.cell1
        go_wp2_with fail
        clear cc0 cc1 cc2 cc3 cc4 cc5
        refine (awake_any _).mono ?_
        rintro e w14 ⟨rfl, b⟩
        replace hB := nextB hB b
        replace ff1 := ff1.below b
        replace kf1 := kf1.below b
        replace fg := fg.below b
        replace kg := kg.below b
        replace fo := fo.below b
        replace ko := ko.below b
        clear b
        go_wp2
        go_ret
        exact ⟨rfl, hB⟩
      · have HZ := Lib.hid hz2
        clear hz2
        have cc0 := kf1.cell0
        have cc1 := kf1.cell1
        have cc2 := kg.cell0
        have cc3 := kg.cell1
        have cc4 := ko.cell0
        have cc5 := ko.cell1
        go_wp2_with fail
        clear cc0 cc1 cc2 cc3 cc4 cc5
        refine (HC.out.cm jx jy).mono ?_
        rintro e w13 ⟨rfl, b⟩
        replace hB := nextB hB b
        replace ff1 := ff1.below b
        replace kf1 := kf1.below b
        replace fg := fg.below b
        replace kg := kg.below b
        replace fo := fo.below b
        replace ko := ko.below b
        clear b
        clear cA0 cA1 cB0 cB1 jx jy
        obtain ⟨wo, hwo⟩ : ∃ wo : World, wo = w13 := ⟨_, rfl⟩
        rw [← hwo] at hB ff1 kf1 fg kg fo ko ⊢
        clear hwo
        have cc0 := kf1.cell0
        have cc1 := kf1.cell1
        have cc2 := kg.cell0
        have cc3 := kg.cell1
        have cc4 := ko.cell0
        have cc5 := ko.cell1
        have ltf1 := kf1.lt
        have ltg := kg.lt
        have lto := ko.lt
        go_wp2
        go_region_held3 (fun w' => w'.cell? ⟨Rf1, 0, none⟩ = some (.slice aof1 qf1 capf1) ∧ w'.cell? ⟨Rf1, 1, none⟩ = some (.slice aof12 qf12 capf12) ∧ w'.cell? ⟨Rg, 0, none⟩ = some (.slice aog qg capg) ∧ w'.cell? ⟨Rg, 1, none⟩ = some (.slice aog2 qg2 capg2) ∧ w'.cell? ⟨Ro, 0, none⟩ = some (.slice aoo qo capo) ∧ w'.cell? ⟨Ro, 1, none⟩ = some (.slice aoo2 qo2 capo2) ∧ Below wo.heap.size wo w')
          (first
            | exact ⟨cc0, cc1, cc2, cc3, cc4, cc5, (Below.refl _ _).drew⟩
            | (go_split_ands; exact ⟨by assumption, by assumption, by assumption, by assumption, by assumption, by assumption, by assumption⟩)
            | (go_split_ands; have hk := nextB (by assumption) bb; exact ⟨(hk.cell (p := ⟨Rf1, 0, none⟩) ltf1).trans cc0, (hk.cell (p := ⟨Rf1, 1, none⟩) ltf1).trans cc1, (hk.cell (p := ⟨Rg, 0, none⟩) ltg).trans cc2, (hk.cell (p := ⟨Rg, 1, none⟩) ltg).trans cc3, (hk.cell (p := ⟨Ro, 0, none⟩) lto).trans cc4, (hk.cell (p := ⟨Ro, 1, none⟩) lto).trans cc5, hk⟩))
          (first
            | (go_at_call 51; go_split_ands; (first | ((with_reducible refine (FDen_any (fg.below (by assumption)) 193 (by omega) HC.out.bs).mono ?_); rintro e wq ⟨v1, rfl, i1, bb⟩) | ((with_reducible refine (FDen_any (fo.below (by assumption)) 193 (by omega) HC.out.b2).mono ?_); rintro e wq ⟨v2, rfl, i2, bb⟩; replace i1 := i1.below bb)))
            | (go_at_call 45; go_split_ands; (with_reducible refine (Cmp_any i1 i2).mono ?_); rintro e wq ⟨rfl, bb⟩))
        go_split_ands
        have b : Below wo.heap.size wo wq := by assumption
        obtain ⟨w14, hw⟩ : ∃ w_ : World, w_ = wq := ⟨_, rfl⟩
        rw [← hw] at b ⊢
        clear hw
        replace hB := nextB hB b
        replace ff1 := ff1.below b
        replace kf1 := kf1.below b
        replace fg := fg.below b
        replace kg := kg.below b
        replace fo := fo.below b
        replace ko := ko.below b
        clear b
        rcases HZ.out with hz | ⟨hz, hz2⟩
        · rw [cmpI_lt hz]
          clear hz
          have cc0 := kf1.cell0
          have cc1 := kf1.cell1
          have cc2 := kg.cell0
          have cc3 := kg.cell1
          have cc4 := ko.cell0
          have cc5 := ko.cell1
          go_wp2_with fail
          clear cc0 cc1 cc2 cc3 cc4 cc5
          refine (awake_any _).mono ?_
          rintro e w15 ⟨rfl, b⟩
          replace hB := nextB hB b
          replace ff1 := ff1.below b
          replace kf1 := kf1.below b
          replace fg := fg.below b
          replace kg := kg.below b
          replace fo := fo.below b
          replace ko := ko.below b
          clear b
          go_wp2
          go_ret
          exact ⟨rfl, hB⟩
        · have hcm : cmpI s s2 = 0 := by rw [hz]; exact cmpI_self _
          rw [hcm]
          have hz3 : decide (cmpI (r * s2) (r2 * s) ≤ 0) = true := decide_eq_true (cmpI_np.2 (by rw [hz]; exact Nat.mul_le_mul_right _ hz2))
          clear hcm hz hz2
          have cc0 := kf1.cell0
          have cc1 := kf1.cell1
          have cc2 := kg.cell0
          have cc3 := kg.cell1
          have cc4 := ko.cell0
          have cc5 := ko.cell1
          go_wp2_with fail
          clear cc0 cc1 cc2 cc3 cc4 cc5
          refine (HC.out.cg fg fo).mono ?_
          rintro e w15 ⟨rfl, b⟩
          replace hB := nextB hB b
          replace ff1 := ff1.below b
          replace kf1 := kf1.below b
          replace fg := fg.below b
          replace kg := kg.below b
          replace fo := fo.below b
          replace ko := ko.below b
          clear b
          have cc0 := kf1.cell0
          have cc1 := kf1.cell1
          have cc2 := kg.cell0
          have cc3 := kg.cell1
          have cc4 := ko.cell0
          have cc5 := ko.cell1
          go_wp2_with fail
          clear cc0 cc1 cc2 cc3 cc4 cc5
          refine (awake_any _).mono ?_
          rintro e w16 ⟨rfl, b⟩
          replace hB := nextB hB b
          replace ff1 := ff1.below b
          replace kf1 := kf1.below b
          replace fg := fg.below b
          replace kg := kg.below b
          replace fo := fo.below b
          replace ko := ko.below b
          clear b
          go_wp2
          go_ret
          exact ⟨rfl, hB⟩

end Go.Proofs.Ytppbhjhbaknidaa
