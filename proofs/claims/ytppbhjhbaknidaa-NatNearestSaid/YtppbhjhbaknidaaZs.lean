/-
  The walk of the law NatFracSums. No condition.
-/
import Derived.Test.YtppbhjhbaknidaaZr
set_option linter.unusedVariables false
set_option linter.unusedSimpArgs false

/-
  The walk of the law NatFracSums. No condition.
-/
set_option linter.unusedVariables false
set_option linter.unusedSimpArgs false
namespace Go.Proofs.Ytppbhjhbaknidaa
open Go.RowKit

structure SumC (p1 q1 p2 q2 As Bs Am Bm : Nat) (x : Int) : Prop where
  fa : ∀ {w : World} {f g : Value}, IsF w f p1 q1 → IsF w g p2 q2 → Calls Try.prog 64 #[f, g] w (RetF0 w As Bs)
  fm : ∀ {w : World} {f g : Value}, IsF w f p1 q1 → IsF w g p2 q2 → Calls Try.prog 84 #[f, g] w (RetF0 w Am Bm)
  ga : ∀ {w : World} {f g : Value}, IsG w f p1 q1 → IsG w g p2 q2 → Calls Try.prog 86 #[f, g] w (RetG w As Bs)
  gm : ∀ {w : World} {f g : Value}, IsG w f p1 q1 → IsG w g p2 q2 → Calls Try.prog 87 #[f, g] w (RetG w Am Bm)
  fc : ∀ {w : World} {f g : Value}, IsF w f p1 q1 → IsF w g p2 q2 → Calls Try.prog 63 #[f, g] w (RetI w x)
  gc : ∀ {w : World} {f g : Value}, IsG w f p1 q1 → IsG w g p2 q2 → Calls Try.prog 88 #[f, g] w (RetI w x)
  ba : As < P2 512 ∧ Bs < P2 512
  bm : Am < P2 512 ∧ Bm < P2 512
  neg : p1 * q2 < p2 * q1 → x < 0
  pos : p2 * q1 ≤ p1 * q2 → ¬ x < 0
structure TwoC (i j p1 q1 p2 q2 A B : Nat) : Prop where
  f : ∀ {w : World} {f g : Value}, IsF w f p1 q1 → IsF w g p2 q2 → Calls Try.prog i #[f, g] w (RetF0 w A B)
  g : ∀ {w : World} {f g : Value}, IsG w f p1 q1 → IsG w g p2 q2 → Calls Try.prog j #[f, g] w (RetG w A B)
  b : A < P2 512 ∧ B < P2 512
theorem sum_pos {a b c d : Nat} (h : a * b < c * d) : 0 < c := Nat.pos_of_ne_zero fun h0 => by subst h0; rw [Nat.zero_mul] at h; omega
abbrev Frac12 (p q : Nat) : Prop := 0 < q ∧ Nat.gcd p q = 1 ∧ p < P2 (16 * 12) ∧ q < P2 (16 * 12)
theorem sumC {p1 q1 p2 q2 : Nat} (h1 : Frac12 p1 q1) (h2 : Frac12 p2 q2) : ∃ As Bs Am Bm x, SumC p1 q1 p2 q2 As Bs Am Bm x := by
  obtain ⟨a1, b1, c1, d1⟩ := h1
  obtain ⟨a2, b2, c2, d2⟩ := h2
  have u := add_bd c1 d1 c2 d2
  have v1 := div_bd (g := Nat.gcd (p1 * q2 + p2 * q1) (q1 * q2)) u.1
  have v2 := div_bd (g := Nat.gcd (p1 * q2 + p2 * q1) (q1 * q2)) u.2
  have m1 := div_bd (g := Nat.gcd (p1 * p2) (q1 * q2)) (mul_lt_P2 c1 c2)
  have m2 := div_bd (g := Nat.gcd (p1 * p2) (q1 * q2)) (mul_lt_P2 d1 d2)
  refine ⟨_, _, _, _, _, ⟨fun i j => (FAdd_any i j (16 * 12) (by omega) c1 d1 c2 d2).mono fun e w' h => h.ok (within_ok (lt_P2_mono v1 (by omega)) (lt_P2_mono v2 (by omega))),
    fun i j => (FMul_any i j (16 * 12) (by omega) c1 d1 c2 d2).mono fun e w' h => h.ok (within_ok (lt_P2_mono m1 (by omega)) (lt_P2_mono m2 (by omega))),
    fun i j => addG_any i j (16 * 12) (by omega) c1 d1 c2 d2, fun i j => mulG_any i j (16 * 12) (by omega) c1 d1 c2 d2, fun i j => FCmp_any i j (16 * 12) (by omega) c1 d1 c2 d2, fun i j => cmpG_any i j (16 * 12) (by omega) c1 d1 c2 d2,
    ⟨lt_P2_mono v1 (by omega), lt_P2_mono v2 (by omega)⟩, ⟨lt_P2_mono m1 (by omega), lt_P2_mono m2 (by omega)⟩, fun h => by rw [cmpI_lt h]; decide, fun h => by have := cmpI_ge h; omega⟩⟩
theorem subC {p1 q1 p2 q2 : Nat} (h1 : Frac12 p1 q1) (h2 : Frac12 p2 q2) (hle : p2 * q1 ≤ p1 * q2) : ∃ A B, TwoC 89 90 p1 q1 p2 q2 A B := by
  obtain ⟨a1, b1, c1, d1⟩ := h1
  obtain ⟨a2, b2, c2, d2⟩ := h2
  have v1 := div_bd (g := Nat.gcd (p1 * q2 - p2 * q1) (q1 * q2)) (Nat.lt_of_le_of_lt (Nat.sub_le (p1 * q2) (p2 * q1)) (mul_lt_P2 c1 d2))
  have v2 := div_bd (g := Nat.gcd (p1 * q2 - p2 * q1) (q1 * q2)) (mul_lt_P2 d1 d2)
  exact ⟨_, _, ⟨fun i j => (FSub_any i j hle (16 * 12) (by omega) c1 d1 c2 d2).mono fun e w' h => h.ok (within_ok (lt_P2_mono v1 (by omega)) (lt_P2_mono v2 (by omega))), fun i j => subG_any i j hle (16 * 12) (by omega) c1 d1 c2 d2, ⟨lt_P2_mono v1 (by omega), lt_P2_mono v2 (by omega)⟩⟩⟩
theorem divC {p1 q1 p2 q2 : Nat} (h1 : Frac12 p1 q1) (h2 : Frac12 p2 q2) (hp : 0 < p2) : ∃ A B, TwoC 91 92 p1 q1 p2 q2 A B := by
  obtain ⟨a1, b1, c1, d1⟩ := h1
  obtain ⟨a2, b2, c2, d2⟩ := h2
  have v1 := div_bd (g := Nat.gcd (p1 * q2) (q1 * p2)) (mul_lt_P2 c1 d2)
  have v2 := div_bd (g := Nat.gcd (p1 * q2) (q1 * p2)) (mul_lt_P2 d1 c2)
  exact ⟨_, _, ⟨fun i j => (FDiv_any i j hp (16 * 12) (by omega) c1 d1 c2 d2).mono fun e w' h => h.ok (within_ok (lt_P2_mono v1 (by omega)) (lt_P2_mono v2 (by omega))), fun i j => divG_any i j hp (16 * 12) (by omega) c1 d1 c2 d2, ⟨lt_P2_mono v1 (by omega), lt_P2_mono v2 (by omega)⟩⟩⟩

set_option maxHeartbeats 32000000 in
set_option maxRecDepth 100000 in
theorem NatFracSums_walk (va : Value) (vb : Value) (vc : Value) (vd : Value) (w : World) (ia : In16 w va) (ib : In16 w vb) (ic : In16 w vc) (id : In16 w vd) :
    Calls Try.prog 24 #[va, vb, vc, vd] w (RetB w true) := by
  have hB := Below.refl w.heap.size w
  go_enter Try.func24, Try.ntmps24
  go_wp2_with fail
  refine (half_any ia ib 12 (by omega) (by omega)).mono ?_
  rintro e w1 ⟨ok1, p1, q1, v_, aog1, aoh1, kg1, capg1, kh1, caph1, rfl, HH1, jf, jg, b⟩
  have jf1 : IsGo _ ok1 _ p1 q1 := jg
  clear jg
  replace hB := nextB hB b
  replace ia := ia.below b
  replace ib := ib.below b
  replace ic := ic.below b
  replace id := id.below b
  clear b
  replace HH1 := Lib.hid HH1.out
  have ff1 := jf
  obtain ⟨aof1, qf1, capf1, aof12, qf12, capf12, rfl, -, -, -⟩ := ff1.slice
  clear jf
  obtain ⟨b, kf1, kf12⟩ := profg w1 (.slice aof1 qf1 capf1) (.slice aof12 qf12 capf12) (.slice aog1 kg1 capg1) (.slice aoh1 kh1 caph1)
  obtain ⟨Rf1, hRf1⟩ : ∃ R, R = w1.heap.size := ⟨_, rfl⟩
  have cc0 := kf1.cell0
  have cc1 := kf1.cell1
  have cc2 := kf12.cell0
  have cc3 := kf12.cell1
  go_wp2_with fail
  obtain ⟨w2, hw⟩ : ∃ w_ : World, w_ = ((w1.alloc (.cells #[.slice aof1 qf1 capf1, .slice aof12 qf12 capf12] 50)).alloc (.cells #[.slice aog1 kg1 capg1, .slice aoh1 kh1 caph1] 55)) := ⟨_, rfl⟩
  rw [← hw] at b kf1 kf12 ⊢
  rw [← hRf1] at kf1 kf12 ⊢
  clear hw hRf1 cc0 cc1 cc2 cc3
  replace hB := nextB hB b
  replace ia := ia.below b
  replace ib := ib.below b
  replace ic := ic.below b
  replace id := id.below b
  replace ff1 := ff1.below b
  replace jf1 := jf1.below b
  clear b
  clear ia ib
  refine (half_any ic id 12 (by omega) (by omega)).mono ?_
  rintro e w3 ⟨ok2, p2, q2, v_, aog2, aoh2, kg2, capg2, kh2, caph2, rfl, HH2, jf, jg, b⟩
  have jf2 : IsGo _ ok2 _ p2 q2 := jg
  clear jg
  replace hB := nextB hB b
  replace ic := ic.below b
  replace id := id.below b
  replace ff1 := ff1.below b
  replace jf1 := jf1.below b
  replace kf1 := kf1.below b
  replace kf12 := kf12.below b
  clear b
  replace HH2 := Lib.hid HH2.out
  have ff2 := jf
  obtain ⟨aof2, qf2, capf2, aof22, qf22, capf22, rfl, -, -, -⟩ := ff2.slice
  clear jf
  clear ic id
  cases ok1
  · obtain ⟨b, kf2, kf22⟩ := profg w3 (.slice aof2 qf2 capf2) (.slice aof22 qf22 capf22) (.slice aog2 kg2 capg2) (.slice aoh2 kh2 caph2)
    obtain ⟨Rf2, hRf2⟩ : ∃ R, R = w3.heap.size := ⟨_, rfl⟩
    have cc0 := (kf1.below b).cell0
    have cc1 := (kf1.below b).cell1
    have cc2 := (kf12.below b).cell0
    have cc3 := (kf12.below b).cell1
    have cc4 := kf2.cell0
    have cc5 := kf2.cell1
    have cc6 := kf22.cell0
    have cc7 := kf22.cell1
    go_wp2_with fail
    obtain ⟨w4, hw⟩ : ∃ w_ : World, w_ = ((w3.alloc (.cells #[.slice aof2 qf2 capf2, .slice aof22 qf22 capf22] 50)).alloc (.cells #[.slice aog2 kg2 capg2, .slice aoh2 kh2 caph2] 55)) := ⟨_, rfl⟩
    rw [← hw] at b kf2 kf22 ⊢
    rw [← hRf2] at kf2 kf22 ⊢
    clear hw hRf2 cc0 cc1 cc2 cc3 cc4 cc5 cc6 cc7
    replace hB := nextB hB b
    replace ff1 := ff1.below b
    replace jf1 := jf1.below b
    replace kf1 := kf1.below b
    replace kf12 := kf12.below b
    replace ff2 := ff2.below b
    replace jf2 := jf2.below b
    clear b
    refine (awake_any _).mono ?_
    rintro e w5 ⟨rfl, b⟩
    replace hB := nextB hB b
    replace ff1 := ff1.below b
    replace jf1 := jf1.below b
    replace kf1 := kf1.below b
    replace kf12 := kf12.below b
    replace ff2 := ff2.below b
    replace jf2 := jf2.below b
    replace kf2 := kf2.below b
    replace kf22 := kf22.below b
    clear b
    go_wp2
    go_ret
    exact ⟨rfl, hB⟩
  · cases ok2
    · obtain ⟨b, kf2, kf22⟩ := profg w3 (.slice aof2 qf2 capf2) (.slice aof22 qf22 capf22) (.slice aog2 kg2 capg2) (.slice aoh2 kh2 caph2)
      obtain ⟨Rf2, hRf2⟩ : ∃ R, R = w3.heap.size := ⟨_, rfl⟩
      have cc0 := (kf1.below b).cell0
      have cc1 := (kf1.below b).cell1
      have cc2 := (kf12.below b).cell0
      have cc3 := (kf12.below b).cell1
      have cc4 := kf2.cell0
      have cc5 := kf2.cell1
      have cc6 := kf22.cell0
      have cc7 := kf22.cell1
      go_wp2_with fail
      obtain ⟨w4, hw⟩ : ∃ w_ : World, w_ = ((w3.alloc (.cells #[.slice aof2 qf2 capf2, .slice aof22 qf22 capf22] 50)).alloc (.cells #[.slice aog2 kg2 capg2, .slice aoh2 kh2 caph2] 55)) := ⟨_, rfl⟩
      rw [← hw] at b kf2 kf22 ⊢
      rw [← hRf2] at kf2 kf22 ⊢
      clear hw hRf2 cc0 cc1 cc2 cc3 cc4 cc5 cc6 cc7
      replace hB := nextB hB b
      replace ff1 := ff1.below b
      replace jf1 := jf1.below b
      replace kf1 := kf1.below b
      replace kf12 := kf12.below b
      replace ff2 := ff2.below b
      replace jf2 := jf2.below b
      clear b
      refine (awake_any _).mono ?_
      rintro e w5 ⟨rfl, b⟩
      replace hB := nextB hB b
      replace ff1 := ff1.below b
      replace jf1 := jf1.below b
      replace kf1 := kf1.below b
      replace kf12 := kf12.below b
      replace ff2 := ff2.below b
      replace jf2 := jf2.below b
      replace kf2 := kf2.below b
      replace kf22 := kf22.below b
      clear b
      go_wp2
      go_ret
      exact ⟨rfl, hB⟩
    · have fg1 : IsG w3 _ p1 q1 := jf1 rfl
      clear jf1
      have fg2 : IsG w3 _ p2 q2 := jf2 rfl
      clear jf2
      obtain ⟨aog_, qg_, capg_, aog2_, qg2_, capg2_, e1, ign, -, -⟩ := fg2.slice
      obtain ⟨⟨rfl, rfl, rfl⟩, rfl, rfl, rfl⟩ := by simpa using e1
      obtain ⟨aoh_, qh_, caph_, e1, hk0, -⟩ := ign.slice
      obtain ⟨rfl, rfl, rfl⟩ := by simpa using e1
      clear e1 ign
      have HK0 := Lib.hid hk0
      clear hk0
      obtain ⟨As, Bs, Am, Bm, x, HS_⟩ := sumC HH1.out HH2.out
      have HS := Lib.hid HS_
      clear HS_
      obtain ⟨b, kf2, kf22⟩ := profg w3 (.slice aof2 qf2 capf2) (.slice aof22 qf22 capf22) (.slice aog2 kg2 capg2) (.slice aoh2 kh2 caph2)
      obtain ⟨Rf2, hRf2⟩ : ∃ R, R = w3.heap.size := ⟨_, rfl⟩
      have cc0 := (kf1.below b).cell0
      have cc1 := (kf1.below b).cell1
      have cc2 := (kf12.below b).cell0
      have cc3 := (kf12.below b).cell1
      have cc4 := kf2.cell0
      have cc5 := kf2.cell1
      have cc6 := kf22.cell0
      have cc7 := kf22.cell1
      go_wp2_with fail
      obtain ⟨w4, hw⟩ : ∃ w_ : World, w_ = ((w3.alloc (.cells #[.slice aof2 qf2 capf2, .slice aof22 qf22 capf22] 50)).alloc (.cells #[.slice aog2 kg2 capg2, .slice aoh2 kh2 caph2] 55)) := ⟨_, rfl⟩
      rw [← hw] at b kf2 kf22 ⊢
      rw [← hRf2] at kf2 kf22 ⊢
      clear hw hRf2 cc0 cc1 cc2 cc3 cc4 cc5 cc6 cc7
      replace hB := nextB hB b
      replace ff1 := ff1.below b
      replace kf1 := kf1.below b
      replace kf12 := kf12.below b
      replace ff2 := ff2.below b
      replace fg1 := fg1.below b
      replace fg2 := fg2.below b
      clear b
      refine (HS.out.fa ff1 ff2).mono ?_
      rintro e w5 ⟨v_, rfl, j_, b⟩
      replace hB := nextB hB b
      replace ff1 := ff1.below b
      replace kf1 := kf1.below b
      replace kf12 := kf12.below b
      replace ff2 := ff2.below b
      replace fg1 := fg1.below b
      replace fg2 := fg2.below b
      replace kf2 := kf2.below b
      replace kf22 := kf22.below b
      clear b
      have fs := j_
      obtain ⟨aos, qs, caps, aos2, qs2, caps2, rfl, -, -, -⟩ := fs.slice
      clear j_
      obtain ⟨b, ks⟩ := prof w5 (.slice aos qs caps) (.slice aos2 qs2 caps2)
      obtain ⟨Rs, hRs⟩ : ∃ R, R = w5.heap.size := ⟨_, rfl⟩
      have hles : w.heap.size ≤ Rs := by rw [hRs]; exact hB.size
      have cc0 := (kf1.below b).cell0
      have cc1 := (kf1.below b).cell1
      have cc2 := (kf12.below b).cell0
      have cc3 := (kf12.below b).cell1
      have cc4 := (kf2.below b).cell0
      have cc5 := (kf2.below b).cell1
      have cc6 := (kf22.below b).cell0
      have cc7 := (kf22.below b).cell1
      have cc8 := ks.cell0
      have cc9 := ks.cell1
      go_wp2_with fail
      obtain ⟨w6, hw⟩ : ∃ w_ : World, w_ = (w5.alloc (.cells #[.slice aos qs caps, .slice aos2 qs2 caps2] 50)) := ⟨_, rfl⟩
      rw [← hw] at b ks ⊢
      rw [← hRs] at ks ⊢
      clear hw hRs cc0 cc1 cc2 cc3 cc4 cc5 cc6 cc7 cc8 cc9
      replace hB := nextB hB b
      replace ff1 := ff1.below b
      replace kf1 := kf1.below b
      replace kf12 := kf12.below b
      replace ff2 := ff2.below b
      replace fg1 := fg1.below b
      replace fg2 := fg2.below b
      replace kf2 := kf2.below b
      replace kf22 := kf22.below b
      replace fs := fs.below b
      clear b
      refine (HS.out.fm ff1 ff2).mono ?_
      rintro e w7 ⟨v_, rfl, j_, b⟩
      replace hB := nextB hB b
      replace ff1 := ff1.below b
      replace kf1 := kf1.below b
      replace kf12 := kf12.below b
      replace ff2 := ff2.below b
      replace fg1 := fg1.below b
      replace fg2 := fg2.below b
      replace kf2 := kf2.below b
      replace kf22 := kf22.below b
      replace fs := fs.below b
      replace ks := ks.below b
      clear b
      have fm := j_
      obtain ⟨aom, qm, capm, aom2, qm2, capm2, rfl, -, -, -⟩ := fm.slice
      clear j_
      obtain ⟨b, km⟩ := prof w7 (.slice aom qm capm) (.slice aom2 qm2 capm2)
      obtain ⟨Rm, hRm⟩ : ∃ R, R = w7.heap.size := ⟨_, rfl⟩
      have hlem : w.heap.size ≤ Rm := by rw [hRm]; exact hB.size
      have cc0 := (kf1.below b).cell0
      have cc1 := (kf1.below b).cell1
      have cc2 := (kf12.below b).cell0
      have cc3 := (kf12.below b).cell1
      have cc4 := (kf2.below b).cell0
      have cc5 := (kf2.below b).cell1
      have cc6 := (kf22.below b).cell0
      have cc7 := (kf22.below b).cell1
      have cc8 := (ks.below b).cell0
      have cc9 := (ks.below b).cell1
      have cc10 := km.cell0
      have cc11 := km.cell1
      go_wp2_with fail
      obtain ⟨w8, hw⟩ : ∃ w_ : World, w_ = (w7.alloc (.cells #[.slice aom qm capm, .slice aom2 qm2 capm2] 50)) := ⟨_, rfl⟩
      rw [← hw] at b km ⊢
      rw [← hRm] at km ⊢
      clear hw hRm cc0 cc1 cc2 cc3 cc4 cc5 cc6 cc7 cc8 cc9 cc10 cc11
      replace hB := nextB hB b
      replace ff1 := ff1.below b
      replace kf1 := kf1.below b
      replace kf12 := kf12.below b
      replace ff2 := ff2.below b
      replace fg1 := fg1.below b
      replace fg2 := fg2.below b
      replace kf2 := kf2.below b
      replace kf22 := kf22.below b
      replace fs := fs.below b
      replace ks := ks.below b
      replace fm := fm.below b
      clear b
      obtain ⟨wo, hwo⟩ : ∃ wo : World, wo = w8 := ⟨_, rfl⟩
      rw [← hwo] at hB ff1 kf1 kf12 ff2 fg1 fg2 kf2 kf22 fs ks fm km ⊢
      clear hwo
      have cc0 := kf1.cell0
      have cc1 := kf1.cell1
      have cc2 := kf12.cell0
      have cc3 := kf12.cell1
      have cc4 := kf2.cell0
      have cc5 := kf2.cell1
      have cc6 := kf22.cell0
      have cc7 := kf22.cell1
      have cc8 := ks.cell0
      have cc9 := ks.cell1
      have cc10 := km.cell0
      have cc11 := km.cell1
      have ltf1 := kf1.lt
      have ltf12 := kf12.lt
      have ltf2 := kf2.lt
      have ltf22 := kf22.lt
      have lts := ks.lt
      have ltm := km.lt
      go_wp2
      go_region_held3 (fun w' => w'.cell? ⟨Rf1, 0, none⟩ = some (.slice aof1 qf1 capf1) ∧ w'.cell? ⟨Rf1, 1, none⟩ = some (.slice aof12 qf12 capf12) ∧ w'.cell? ⟨Rf1 + 1, 0, none⟩ = some (.slice aog1 kg1 capg1) ∧ w'.cell? ⟨Rf1 + 1, 1, none⟩ = some (.slice aoh1 kh1 caph1) ∧ w'.cell? ⟨Rf2, 0, none⟩ = some (.slice aof2 qf2 capf2) ∧ w'.cell? ⟨Rf2, 1, none⟩ = some (.slice aof22 qf22 capf22) ∧ w'.cell? ⟨Rf2 + 1, 0, none⟩ = some (.slice aog2 kg2 capg2) ∧ w'.cell? ⟨Rf2 + 1, 1, none⟩ = some (.slice aoh2 kh2 caph2) ∧ w'.cell? ⟨Rs, 0, none⟩ = some (.slice aos qs caps) ∧ w'.cell? ⟨Rs, 1, none⟩ = some (.slice aos2 qs2 caps2) ∧ w'.cell? ⟨Rm, 0, none⟩ = some (.slice aom qm capm) ∧ w'.cell? ⟨Rm, 1, none⟩ = some (.slice aom2 qm2 capm2) ∧ Below wo.heap.size wo w')
        (first
          | exact ⟨cc0, cc1, cc2, cc3, cc4, cc5, cc6, cc7, cc8, cc9, cc10, cc11, (Below.refl _ _).drew⟩
          | (go_split_ands; exact ⟨by assumption, by assumption, by assumption, by assumption, by assumption, by assumption, by assumption, by assumption, by assumption, by assumption, by assumption, by assumption, by assumption⟩)
          | (go_split_ands; have hk := nextB (by assumption) bb; exact ⟨(hk.cell (p := ⟨Rf1, 0, none⟩) ltf1).trans cc0, (hk.cell (p := ⟨Rf1, 1, none⟩) ltf1).trans cc1, (hk.cell (p := ⟨Rf1 + 1, 0, none⟩) ltf12).trans cc2, (hk.cell (p := ⟨Rf1 + 1, 1, none⟩) ltf12).trans cc3, (hk.cell (p := ⟨Rf2, 0, none⟩) ltf2).trans cc4, (hk.cell (p := ⟨Rf2, 1, none⟩) ltf2).trans cc5, (hk.cell (p := ⟨Rf2 + 1, 0, none⟩) ltf22).trans cc6, (hk.cell (p := ⟨Rf2 + 1, 1, none⟩) ltf22).trans cc7, (hk.cell (p := ⟨Rs, 0, none⟩) lts).trans cc8, (hk.cell (p := ⟨Rs, 1, none⟩) lts).trans cc9, (hk.cell (p := ⟨Rm, 0, none⟩) ltm).trans cc10, (hk.cell (p := ⟨Rm, 1, none⟩) ltm).trans cc11, hk⟩))
        (first
          | (go_at_call 86; go_split_ands; (with_reducible refine (HS.out.ga (fg1.below (by assumption)) (fg2.below (by assumption))).mono ?_); rintro e wq ⟨y1, rfl, j1, bb⟩; obtain ⟨ao1, k1, cap1, ao2, k2, cap2, rfl, -, -, -⟩ := id j1.slice)
          | (go_at_call 49; go_split_ands; (first | (with_reducible refine (same_ok (fs.below (by assumption)) j1 512 (by omega) HS.out.ba.1 HS.out.ba.2).mono ?_) | (with_reducible refine (same_ok (fm.below (by assumption)) j2 512 (by omega) HS.out.bm.1 HS.out.bm.2).mono ?_)); rintro e wq ⟨rfl, bb⟩)
          | (go_at_call 87; go_split_ands; (with_reducible refine (HS.out.gm (fg1.below (by assumption)) (fg2.below (by assumption))).mono ?_); rintro e wq ⟨y2, rfl, j2, bb⟩; obtain ⟨ao3, k3, cap3, ao4, k4, cap4, rfl, -, -, -⟩ := id j2.slice)
          | (go_at_call 63; go_split_ands; (with_reducible refine (HS.out.fc (ff1.below (by assumption)) (ff2.below (by assumption))).mono ?_); rintro e wq ⟨rfl, bb⟩)
          | (go_at_call 88; go_split_ands; (with_reducible refine (HS.out.gc (fg1.below (by assumption)) (fg2.below (by assumption))).mono ?_); rintro e wq ⟨rfl, bb⟩))
      go_split_ands
      have b : Below wo.heap.size wo wq := by assumption
      obtain ⟨w9, hw⟩ : ∃ w_ : World, w_ = wq := ⟨_, rfl⟩
      rw [← hw] at b ⊢
      clear hw
      replace hB := nextB hB b
      replace ff1 := ff1.below b
      replace kf1 := kf1.below b
      replace kf12 := kf12.below b
      replace ff2 := ff2.below b
      replace fg1 := fg1.below b
      replace fg2 := fg2.below b
      replace kf2 := kf2.below b
      replace kf22 := kf22.below b
      replace fs := fs.below b
      replace ks := ks.below b
      replace fm := fm.below b
      replace km := km.below b
      clear b
      clear fs fm ks km
      by_cases hlt : p1 * q2 < p2 * q1
      · have HP0 := Lib.hid (sum_pos hlt)
        have hz : decide (x < 0) = true := decide_eq_true (HS.out.neg hlt)
        have HN := Lib.hid (fun w_ f_ g_ (h1 : IsF w_ f_ p1 q1) (h2 : IsF w_ g_ p2 q2) => FSub_neg h1 h2 hlt 192 (by omega) HH1.out.2.2.1 HH1.out.2.2.2 HH2.out.2.2.1 HH2.out.2.2.2)
        clear hlt
        have cc0 := kf1.cell0
        have cc1 := kf1.cell1
        have cc2 := kf12.cell0
        have cc3 := kf12.cell1
        have cc4 := kf2.cell0
        have cc5 := kf2.cell1
        have cc6 := kf22.cell0
        have cc7 := kf22.cell1
        go_wp2_with fail
        clear cc0 cc1 cc2 cc3 cc4 cc5 cc6 cc7
        refine (HN.out _ _ _ ff1 ff2).mono ?_
        rintro e w10 ⟨v_, rfl, j_, b⟩
        rw [if_neg (by omega), if_neg (by omega)] at j_
        replace hB := nextB hB b
        replace ff1 := ff1.below b
        replace kf1 := kf1.below b
        replace kf12 := kf12.below b
        replace ff2 := ff2.below b
        replace fg1 := fg1.below b
        replace fg2 := fg2.below b
        replace kf2 := kf2.below b
        replace kf22 := kf22.below b
        clear b
        have ft := j_
        obtain ⟨aot, qt, capt, aot2, qt2, capt2, rfl, -, -, -⟩ := ft.slice
        clear j_
        obtain ⟨b, kt⟩ := prof w10 (.slice aot qt capt) (.slice aot2 qt2 capt2)
        obtain ⟨Rt, hRt⟩ : ∃ R, R = w10.heap.size := ⟨_, rfl⟩
        have hlet : w.heap.size ≤ Rt := by rw [hRt]; exact hB.size
        have cc0 := (kf1.below b).cell0
        have cc1 := (kf1.below b).cell1
        have cc2 := (kf12.below b).cell0
        have cc3 := (kf12.below b).cell1
        have cc4 := (kf2.below b).cell0
        have cc5 := (kf2.below b).cell1
        have cc6 := (kf22.below b).cell0
        have cc7 := (kf22.below b).cell1
        have cc8 := kt.cell0
        have cc9 := kt.cell1
        go_wp2_with fail
        obtain ⟨w11, hw⟩ : ∃ w_ : World, w_ = (w10.alloc (.cells #[.slice aot qt capt, .slice aot2 qt2 capt2] 50)) := ⟨_, rfl⟩
        rw [← hw] at b kt ⊢
        rw [← hRt] at kt ⊢
        clear hw hRt cc0 cc1 cc2 cc3 cc4 cc5 cc6 cc7 cc8 cc9
        replace hB := nextB hB b
        replace ff1 := ff1.below b
        replace kf1 := kf1.below b
        replace kf12 := kf12.below b
        replace ff2 := ff2.below b
        replace fg1 := fg1.below b
        replace fg2 := fg2.below b
        replace kf2 := kf2.below b
        replace kf22 := kf22.below b
        replace ft := ft.below b
        clear b
        refine (HS.out.gc fg1 fg2).mono ?_
        rintro e w12 ⟨rfl, b⟩
        replace hB := nextB hB b
        replace ff1 := ff1.below b
        replace kf1 := kf1.below b
        replace kf12 := kf12.below b
        replace ff2 := ff2.below b
        replace fg1 := fg1.below b
        replace fg2 := fg2.below b
        replace kf2 := kf2.below b
        replace kf22 := kf22.below b
        replace ft := ft.below b
        replace kt := kt.below b
        clear b
        have cc0 := kf1.cell0
        have cc1 := kf1.cell1
        have cc2 := kf12.cell0
        have cc3 := kf12.cell1
        have cc4 := kf2.cell0
        have cc5 := kf2.cell1
        have cc6 := kf22.cell0
        have cc7 := kf22.cell1
        have cc8 := kt.cell0
        have cc9 := kt.cell1
        go_wp2_with fail
        clear cc0 cc1 cc2 cc3 cc4 cc5 cc6 cc7 cc8 cc9
        refine (same_err (er := 10) ft (by omega) (by omega) _ _ _ _ _ _).mono ?_
        rintro e w13 ⟨rfl, b⟩
        replace hB := nextB hB b
        replace ff1 := ff1.below b
        replace kf1 := kf1.below b
        replace kf12 := kf12.below b
        replace ff2 := ff2.below b
        replace fg1 := fg1.below b
        replace fg2 := fg2.below b
        replace kf2 := kf2.below b
        replace kf22 := kf22.below b
        replace ft := ft.below b
        replace kt := kt.below b
        clear b
        clear hz
        clear ft kt
        have hk1 : ((kg2 : Int) == 0) = false := by rw [beq_eq_false_iff_ne]; intro hh; have := HK0.out.1 (by omega); have := HP0.out; omega
        obtain ⟨Av, Bv, HV_⟩ := divC HH1.out HH2.out HP0.out
        have HV := Lib.hid HV_
        clear HV_
        have cc0 := kf1.cell0
        have cc1 := kf1.cell1
        have cc2 := kf12.cell0
        have cc3 := kf12.cell1
        have cc4 := kf2.cell0
        have cc5 := kf2.cell1
        have cc6 := kf22.cell0
        have cc7 := kf22.cell1
        go_wp2_with fail
        clear cc0 cc1 cc2 cc3 cc4 cc5 cc6 cc7
        refine (HV.out.f ff1 ff2).mono ?_
        rintro e w14 ⟨v_, rfl, j_, b⟩
        replace hB := nextB hB b
        replace ff1 := ff1.below b
        replace kf1 := kf1.below b
        replace kf12 := kf12.below b
        replace ff2 := ff2.below b
        replace fg1 := fg1.below b
        replace fg2 := fg2.below b
        replace kf2 := kf2.below b
        replace kf22 := kf22.below b
        clear b
        have fv := j_
        obtain ⟨aov, qv, capv, aov2, qv2, capv2, rfl, -, -, -⟩ := fv.slice
        clear j_
        obtain ⟨b, kv⟩ := prof w14 (.slice aov qv capv) (.slice aov2 qv2 capv2)
        obtain ⟨Rv, hRv⟩ : ∃ R, R = w14.heap.size := ⟨_, rfl⟩
        have hlev : w.heap.size ≤ Rv := by rw [hRv]; exact hB.size
        have cc0 := (kf1.below b).cell0
        have cc1 := (kf1.below b).cell1
        have cc2 := (kf12.below b).cell0
        have cc3 := (kf12.below b).cell1
        have cc4 := (kf2.below b).cell0
        have cc5 := (kf2.below b).cell1
        have cc6 := (kf22.below b).cell0
        have cc7 := (kf22.below b).cell1
        have cc8 := kv.cell0
        have cc9 := kv.cell1
        go_wp2_with fail
        obtain ⟨w15, hw⟩ : ∃ w_ : World, w_ = (w14.alloc (.cells #[.slice aov qv capv, .slice aov2 qv2 capv2] 50)) := ⟨_, rfl⟩
        rw [← hw] at b kv ⊢
        rw [← hRv] at kv ⊢
        clear hw hRv cc0 cc1 cc2 cc3 cc4 cc5 cc6 cc7 cc8 cc9
        replace hB := nextB hB b
        replace ff1 := ff1.below b
        replace kf1 := kf1.below b
        replace kf12 := kf12.below b
        replace ff2 := ff2.below b
        replace fg1 := fg1.below b
        replace fg2 := fg2.below b
        replace kf2 := kf2.below b
        replace kf22 := kf22.below b
        replace fv := fv.below b
        clear b
        obtain ⟨wo, hwo⟩ : ∃ wo : World, wo = w15 := ⟨_, rfl⟩
        rw [← hwo] at hB ff1 kf1 kf12 ff2 fg1 fg2 kf2 kf22 fv kv ⊢
        clear hwo
        have cc0 := kf1.cell0
        have cc1 := kf1.cell1
        have cc2 := kf12.cell0
        have cc3 := kf12.cell1
        have cc4 := kf2.cell0
        have cc5 := kf2.cell1
        have cc6 := kf22.cell0
        have cc7 := kf22.cell1
        have cc8 := kv.cell0
        have cc9 := kv.cell1
        have ltf1 := kf1.lt
        have ltf12 := kf12.lt
        have ltf2 := kf2.lt
        have ltf22 := kf22.lt
        have ltv := kv.lt
        go_wp2
        go_region_held3 (fun w' => w'.cell? ⟨Rf1, 0, none⟩ = some (.slice aof1 qf1 capf1) ∧ w'.cell? ⟨Rf1, 1, none⟩ = some (.slice aof12 qf12 capf12) ∧ w'.cell? ⟨Rf1 + 1, 0, none⟩ = some (.slice aog1 kg1 capg1) ∧ w'.cell? ⟨Rf1 + 1, 1, none⟩ = some (.slice aoh1 kh1 caph1) ∧ w'.cell? ⟨Rf2, 0, none⟩ = some (.slice aof2 qf2 capf2) ∧ w'.cell? ⟨Rf2, 1, none⟩ = some (.slice aof22 qf22 capf22) ∧ w'.cell? ⟨Rf2 + 1, 0, none⟩ = some (.slice aog2 kg2 capg2) ∧ w'.cell? ⟨Rf2 + 1, 1, none⟩ = some (.slice aoh2 kh2 caph2) ∧ w'.cell? ⟨Rv, 0, none⟩ = some (.slice aov qv capv) ∧ w'.cell? ⟨Rv, 1, none⟩ = some (.slice aov2 qv2 capv2) ∧ Below wo.heap.size wo w')
          (first
            | exact ⟨cc0, cc1, cc2, cc3, cc4, cc5, cc6, cc7, cc8, cc9, (Below.refl _ _).drew⟩
            | (go_split_ands; exact ⟨by assumption, by assumption, by assumption, by assumption, by assumption, by assumption, by assumption, by assumption, by assumption, by assumption, by assumption⟩)
            | (go_split_ands; have hk := nextB (by assumption) bb; exact ⟨(hk.cell (p := ⟨Rf1, 0, none⟩) ltf1).trans cc0, (hk.cell (p := ⟨Rf1, 1, none⟩) ltf1).trans cc1, (hk.cell (p := ⟨Rf1 + 1, 0, none⟩) ltf12).trans cc2, (hk.cell (p := ⟨Rf1 + 1, 1, none⟩) ltf12).trans cc3, (hk.cell (p := ⟨Rf2, 0, none⟩) ltf2).trans cc4, (hk.cell (p := ⟨Rf2, 1, none⟩) ltf2).trans cc5, (hk.cell (p := ⟨Rf2 + 1, 0, none⟩) ltf22).trans cc6, (hk.cell (p := ⟨Rf2 + 1, 1, none⟩) ltf22).trans cc7, (hk.cell (p := ⟨Rv, 0, none⟩) ltv).trans cc8, (hk.cell (p := ⟨Rv, 1, none⟩) ltv).trans cc9, hk⟩))
          (first
            | (go_at_call 92; go_split_ands; (with_reducible refine (HV.out.g (fg1.below (by assumption)) (fg2.below (by assumption))).mono ?_); rintro e wq ⟨y5, rfl, j5, bb⟩; obtain ⟨ao7, k7, cap7, ao8, k8, cap8, rfl, -, -, -⟩ := id j5.slice)
            | (go_at_call 49; go_split_ands; (with_reducible refine (same_ok (fv.below (by assumption)) j5 512 (by omega) HV.out.b.1 HV.out.b.2).mono ?_); rintro e wq ⟨rfl, bb⟩)
            | (go_at_call 31; go_split_ands; refine (awake_any _).mono ?_; rintro e wq ⟨rfl, bb⟩))
        go_split_ands
        have hC := nextB hB (by assumption)
        go_wp2
        go_ret
        exact ⟨rfl, hC⟩
      · have hz : decide (x < 0) = false := decide_eq_false (HS.out.pos (Nat.not_lt.1 hlt))
        obtain ⟨Ad, Bd, HD_⟩ := subC HH1.out HH2.out (Nat.not_lt.1 hlt)
        have HD := Lib.hid HD_
        clear HD_ hlt
        have cc0 := kf1.cell0
        have cc1 := kf1.cell1
        have cc2 := kf12.cell0
        have cc3 := kf12.cell1
        have cc4 := kf2.cell0
        have cc5 := kf2.cell1
        have cc6 := kf22.cell0
        have cc7 := kf22.cell1
        go_wp2_with fail
        clear cc0 cc1 cc2 cc3 cc4 cc5 cc6 cc7
        refine (HD.out.f ff1 ff2).mono ?_
        rintro e w10 ⟨v_, rfl, j_, b⟩
        replace hB := nextB hB b
        replace ff1 := ff1.below b
        replace kf1 := kf1.below b
        replace kf12 := kf12.below b
        replace ff2 := ff2.below b
        replace fg1 := fg1.below b
        replace fg2 := fg2.below b
        replace kf2 := kf2.below b
        replace kf22 := kf22.below b
        clear b
        have ft := j_
        obtain ⟨aot, qt, capt, aot2, qt2, capt2, rfl, -, -, -⟩ := ft.slice
        clear j_
        obtain ⟨b, kt⟩ := prof w10 (.slice aot qt capt) (.slice aot2 qt2 capt2)
        obtain ⟨Rt, hRt⟩ : ∃ R, R = w10.heap.size := ⟨_, rfl⟩
        have hlet : w.heap.size ≤ Rt := by rw [hRt]; exact hB.size
        have cc0 := (kf1.below b).cell0
        have cc1 := (kf1.below b).cell1
        have cc2 := (kf12.below b).cell0
        have cc3 := (kf12.below b).cell1
        have cc4 := (kf2.below b).cell0
        have cc5 := (kf2.below b).cell1
        have cc6 := (kf22.below b).cell0
        have cc7 := (kf22.below b).cell1
        have cc8 := kt.cell0
        have cc9 := kt.cell1
        go_wp2_with fail
        obtain ⟨w11, hw⟩ : ∃ w_ : World, w_ = (w10.alloc (.cells #[.slice aot qt capt, .slice aot2 qt2 capt2] 50)) := ⟨_, rfl⟩
        rw [← hw] at b kt ⊢
        rw [← hRt] at kt ⊢
        clear hw hRt cc0 cc1 cc2 cc3 cc4 cc5 cc6 cc7 cc8 cc9
        replace hB := nextB hB b
        replace ff1 := ff1.below b
        replace kf1 := kf1.below b
        replace kf12 := kf12.below b
        replace ff2 := ff2.below b
        replace fg1 := fg1.below b
        replace fg2 := fg2.below b
        replace kf2 := kf2.below b
        replace kf22 := kf22.below b
        replace ft := ft.below b
        clear b
        refine (HS.out.gc fg1 fg2).mono ?_
        rintro e w12 ⟨rfl, b⟩
        replace hB := nextB hB b
        replace ff1 := ff1.below b
        replace kf1 := kf1.below b
        replace kf12 := kf12.below b
        replace ff2 := ff2.below b
        replace fg1 := fg1.below b
        replace fg2 := fg2.below b
        replace kf2 := kf2.below b
        replace kf22 := kf22.below b
        replace ft := ft.below b
        replace kt := kt.below b
        clear b
        obtain ⟨wo, hwo⟩ : ∃ wo : World, wo = w12 := ⟨_, rfl⟩
        rw [← hwo] at hB ff1 kf1 kf12 ff2 fg1 fg2 kf2 kf22 ft kt ⊢
        clear hwo
        have cc0 := kf1.cell0
        have cc1 := kf1.cell1
        have cc2 := kf12.cell0
        have cc3 := kf12.cell1
        have cc4 := kf2.cell0
        have cc5 := kf2.cell1
        have cc6 := kf22.cell0
        have cc7 := kf22.cell1
        have cc8 := kt.cell0
        have cc9 := kt.cell1
        have ltf1 := kf1.lt
        have ltf12 := kf12.lt
        have ltf2 := kf2.lt
        have ltf22 := kf22.lt
        have ltt := kt.lt
        go_wp2
        go_region_held3 (fun w' => w'.cell? ⟨Rf1, 0, none⟩ = some (.slice aof1 qf1 capf1) ∧ w'.cell? ⟨Rf1, 1, none⟩ = some (.slice aof12 qf12 capf12) ∧ w'.cell? ⟨Rf1 + 1, 0, none⟩ = some (.slice aog1 kg1 capg1) ∧ w'.cell? ⟨Rf1 + 1, 1, none⟩ = some (.slice aoh1 kh1 caph1) ∧ w'.cell? ⟨Rf2, 0, none⟩ = some (.slice aof2 qf2 capf2) ∧ w'.cell? ⟨Rf2, 1, none⟩ = some (.slice aof22 qf22 capf22) ∧ w'.cell? ⟨Rf2 + 1, 0, none⟩ = some (.slice aog2 kg2 capg2) ∧ w'.cell? ⟨Rf2 + 1, 1, none⟩ = some (.slice aoh2 kh2 caph2) ∧ w'.cell? ⟨Rt, 0, none⟩ = some (.slice aot qt capt) ∧ w'.cell? ⟨Rt, 1, none⟩ = some (.slice aot2 qt2 capt2) ∧ Below wo.heap.size wo w')
          (first
            | exact ⟨cc0, cc1, cc2, cc3, cc4, cc5, cc6, cc7, cc8, cc9, (Below.refl _ _).drew⟩
            | (go_split_ands; exact ⟨by assumption, by assumption, by assumption, by assumption, by assumption, by assumption, by assumption, by assumption, by assumption, by assumption, by assumption⟩)
            | (go_split_ands; have hk := nextB (by assumption) bb; exact ⟨(hk.cell (p := ⟨Rf1, 0, none⟩) ltf1).trans cc0, (hk.cell (p := ⟨Rf1, 1, none⟩) ltf1).trans cc1, (hk.cell (p := ⟨Rf1 + 1, 0, none⟩) ltf12).trans cc2, (hk.cell (p := ⟨Rf1 + 1, 1, none⟩) ltf12).trans cc3, (hk.cell (p := ⟨Rf2, 0, none⟩) ltf2).trans cc4, (hk.cell (p := ⟨Rf2, 1, none⟩) ltf2).trans cc5, (hk.cell (p := ⟨Rf2 + 1, 0, none⟩) ltf22).trans cc6, (hk.cell (p := ⟨Rf2 + 1, 1, none⟩) ltf22).trans cc7, (hk.cell (p := ⟨Rt, 0, none⟩) ltt).trans cc8, (hk.cell (p := ⟨Rt, 1, none⟩) ltt).trans cc9, hk⟩))
          (first
            | (go_at_call 90; go_split_ands; (with_reducible refine (HD.out.g (fg1.below (by assumption)) (fg2.below (by assumption))).mono ?_); rintro e wq ⟨y3, rfl, j3, bb⟩; obtain ⟨ao5, k5, cap5, ao6, k6, cap6, rfl, -, -, -⟩ := id j3.slice)
            | (go_at_call 49; go_split_ands; (with_reducible refine (same_ok (ft.below (by assumption)) j3 512 (by omega) HD.out.b.1 HD.out.b.2).mono ?_); rintro e wq ⟨rfl, bb⟩))
        go_split_ands
        have b : Below wo.heap.size wo wq := by assumption
        obtain ⟨w13, hw⟩ : ∃ w_ : World, w_ = wq := ⟨_, rfl⟩
        rw [← hw] at b ⊢
        clear hw
        replace hB := nextB hB b
        replace ff1 := ff1.below b
        replace kf1 := kf1.below b
        replace kf12 := kf12.below b
        replace ff2 := ff2.below b
        replace fg1 := fg1.below b
        replace fg2 := fg2.below b
        replace kf2 := kf2.below b
        replace kf22 := kf22.below b
        replace ft := ft.below b
        replace kt := kt.below b
        clear b
        clear hz
        clear ft kt
        by_cases hp0 : p2 = 0
        · obtain rfl := HK0.out.2 hp0
          subst hp0
          have cc0 := kf1.cell0
          have cc1 := kf1.cell1
          have cc2 := kf12.cell0
          have cc3 := kf12.cell1
          have cc4 := kf2.cell0
          have cc5 := kf2.cell1
          have cc6 := kf22.cell0
          have cc7 := kf22.cell1
          go_wp2_with fail
          clear cc0 cc1 cc2 cc3 cc4 cc5 cc6 cc7
          refine (FDiv_zero ff1 ff2).mono ?_
          rintro e w14 ⟨v_, rfl, j_, b⟩
          rw [if_neg (by omega), if_neg (by omega)] at j_
          replace hB := nextB hB b
          replace ff1 := ff1.below b
          replace kf1 := kf1.below b
          replace kf12 := kf12.below b
          replace ff2 := ff2.below b
          replace fg1 := fg1.below b
          replace fg2 := fg2.below b
          replace kf2 := kf2.below b
          replace kf22 := kf22.below b
          clear b
          have fv := j_
          obtain ⟨aov, qv, capv, aov2, qv2, capv2, rfl, -, -, -⟩ := fv.slice
          clear j_
          obtain ⟨b, kv⟩ := prof w14 (.slice aov qv capv) (.slice aov2 qv2 capv2)
          obtain ⟨Rv, hRv⟩ : ∃ R, R = w14.heap.size := ⟨_, rfl⟩
          have hlev : w.heap.size ≤ Rv := by rw [hRv]; exact hB.size
          have cc0 := (kf1.below b).cell0
          have cc1 := (kf1.below b).cell1
          have cc2 := (kf12.below b).cell0
          have cc3 := (kf12.below b).cell1
          have cc4 := (kf2.below b).cell0
          have cc5 := (kf2.below b).cell1
          have cc6 := (kf22.below b).cell0
          have cc7 := (kf22.below b).cell1
          have cc8 := kv.cell0
          have cc9 := kv.cell1
          go_wp2_with fail
          obtain ⟨w15, hw⟩ : ∃ w_ : World, w_ = (w14.alloc (.cells #[.slice aov qv capv, .slice aov2 qv2 capv2] 50)) := ⟨_, rfl⟩
          rw [← hw] at b kv ⊢
          rw [← hRv] at kv ⊢
          clear hw hRv cc0 cc1 cc2 cc3 cc4 cc5 cc6 cc7 cc8 cc9
          replace hB := nextB hB b
          replace ff1 := ff1.below b
          replace kf1 := kf1.below b
          replace kf12 := kf12.below b
          replace ff2 := ff2.below b
          replace fg1 := fg1.below b
          replace fg2 := fg2.below b
          replace kf2 := kf2.below b
          replace kf22 := kf22.below b
          replace fv := fv.below b
          clear b
          refine (same_err (er := 11) fv (by omega) (by omega) _ _ _ _ _ _).mono ?_
          rintro e w16 ⟨rfl, b⟩
          replace hB := nextB hB b
          replace ff1 := ff1.below b
          replace kf1 := kf1.below b
          replace kf12 := kf12.below b
          replace ff2 := ff2.below b
          replace fg1 := fg1.below b
          replace fg2 := fg2.below b
          replace kf2 := kf2.below b
          replace kf22 := kf22.below b
          replace fv := fv.below b
          replace kv := kv.below b
          clear b
          have cc0 := kf1.cell0
          have cc1 := kf1.cell1
          have cc2 := kf12.cell0
          have cc3 := kf12.cell1
          have cc4 := kf2.cell0
          have cc5 := kf2.cell1
          have cc6 := kf22.cell0
          have cc7 := kf22.cell1
          have cc8 := kv.cell0
          have cc9 := kv.cell1
          go_wp2_with fail
          clear cc0 cc1 cc2 cc3 cc4 cc5 cc6 cc7 cc8 cc9
          refine (awake_any _).mono ?_
          rintro e w17 ⟨rfl, b⟩
          replace hB := nextB hB b
          replace ff1 := ff1.below b
          replace kf1 := kf1.below b
          replace kf12 := kf12.below b
          replace ff2 := ff2.below b
          replace fg1 := fg1.below b
          replace fg2 := fg2.below b
          replace kf2 := kf2.below b
          replace kf22 := kf22.below b
          replace fv := fv.below b
          replace kv := kv.below b
          clear b
          go_wp2
          go_ret
          exact ⟨rfl, hB⟩
        · have HP0 := Lib.hid (Nat.pos_of_ne_zero hp0)
          clear hp0
          have hk1 : ((kg2 : Int) == 0) = false := by rw [beq_eq_false_iff_ne]; intro hh; have := HK0.out.1 (by omega); have := HP0.out; omega
          obtain ⟨Av, Bv, HV_⟩ := divC HH1.out HH2.out HP0.out
          have HV := Lib.hid HV_
          clear HV_
          have cc0 := kf1.cell0
          have cc1 := kf1.cell1
          have cc2 := kf12.cell0
          have cc3 := kf12.cell1
          have cc4 := kf2.cell0
          have cc5 := kf2.cell1
          have cc6 := kf22.cell0
          have cc7 := kf22.cell1
          go_wp2_with fail
          clear cc0 cc1 cc2 cc3 cc4 cc5 cc6 cc7
          refine (HV.out.f ff1 ff2).mono ?_
          rintro e w14 ⟨v_, rfl, j_, b⟩
          replace hB := nextB hB b
          replace ff1 := ff1.below b
          replace kf1 := kf1.below b
          replace kf12 := kf12.below b
          replace ff2 := ff2.below b
          replace fg1 := fg1.below b
          replace fg2 := fg2.below b
          replace kf2 := kf2.below b
          replace kf22 := kf22.below b
          clear b
          have fv := j_
          obtain ⟨aov, qv, capv, aov2, qv2, capv2, rfl, -, -, -⟩ := fv.slice
          clear j_
          obtain ⟨b, kv⟩ := prof w14 (.slice aov qv capv) (.slice aov2 qv2 capv2)
          obtain ⟨Rv, hRv⟩ : ∃ R, R = w14.heap.size := ⟨_, rfl⟩
          have hlev : w.heap.size ≤ Rv := by rw [hRv]; exact hB.size
          have cc0 := (kf1.below b).cell0
          have cc1 := (kf1.below b).cell1
          have cc2 := (kf12.below b).cell0
          have cc3 := (kf12.below b).cell1
          have cc4 := (kf2.below b).cell0
          have cc5 := (kf2.below b).cell1
          have cc6 := (kf22.below b).cell0
          have cc7 := (kf22.below b).cell1
          have cc8 := kv.cell0
          have cc9 := kv.cell1
          go_wp2_with fail
          obtain ⟨w15, hw⟩ : ∃ w_ : World, w_ = (w14.alloc (.cells #[.slice aov qv capv, .slice aov2 qv2 capv2] 50)) := ⟨_, rfl⟩
          rw [← hw] at b kv ⊢
          rw [← hRv] at kv ⊢
          clear hw hRv cc0 cc1 cc2 cc3 cc4 cc5 cc6 cc7 cc8 cc9
          replace hB := nextB hB b
          replace ff1 := ff1.below b
          replace kf1 := kf1.below b
          replace kf12 := kf12.below b
          replace ff2 := ff2.below b
          replace fg1 := fg1.below b
          replace fg2 := fg2.below b
          replace kf2 := kf2.below b
          replace kf22 := kf22.below b
          replace fv := fv.below b
          clear b
          obtain ⟨wo, hwo⟩ : ∃ wo : World, wo = w15 := ⟨_, rfl⟩
          rw [← hwo] at hB ff1 kf1 kf12 ff2 fg1 fg2 kf2 kf22 fv kv ⊢
          clear hwo
          have cc0 := kf1.cell0
          have cc1 := kf1.cell1
          have cc2 := kf12.cell0
          have cc3 := kf12.cell1
          have cc4 := kf2.cell0
          have cc5 := kf2.cell1
          have cc6 := kf22.cell0
          have cc7 := kf22.cell1
          have cc8 := kv.cell0
          have cc9 := kv.cell1
          have ltf1 := kf1.lt
          have ltf12 := kf12.lt
          have ltf2 := kf2.lt
          have ltf22 := kf22.lt
          have ltv := kv.lt
          go_wp2
          go_region_held3 (fun w' => w'.cell? ⟨Rf1, 0, none⟩ = some (.slice aof1 qf1 capf1) ∧ w'.cell? ⟨Rf1, 1, none⟩ = some (.slice aof12 qf12 capf12) ∧ w'.cell? ⟨Rf1 + 1, 0, none⟩ = some (.slice aog1 kg1 capg1) ∧ w'.cell? ⟨Rf1 + 1, 1, none⟩ = some (.slice aoh1 kh1 caph1) ∧ w'.cell? ⟨Rf2, 0, none⟩ = some (.slice aof2 qf2 capf2) ∧ w'.cell? ⟨Rf2, 1, none⟩ = some (.slice aof22 qf22 capf22) ∧ w'.cell? ⟨Rf2 + 1, 0, none⟩ = some (.slice aog2 kg2 capg2) ∧ w'.cell? ⟨Rf2 + 1, 1, none⟩ = some (.slice aoh2 kh2 caph2) ∧ w'.cell? ⟨Rv, 0, none⟩ = some (.slice aov qv capv) ∧ w'.cell? ⟨Rv, 1, none⟩ = some (.slice aov2 qv2 capv2) ∧ Below wo.heap.size wo w')
            (first
              | exact ⟨cc0, cc1, cc2, cc3, cc4, cc5, cc6, cc7, cc8, cc9, (Below.refl _ _).drew⟩
              | (go_split_ands; exact ⟨by assumption, by assumption, by assumption, by assumption, by assumption, by assumption, by assumption, by assumption, by assumption, by assumption, by assumption⟩)
              | (go_split_ands; have hk := nextB (by assumption) bb; exact ⟨(hk.cell (p := ⟨Rf1, 0, none⟩) ltf1).trans cc0, (hk.cell (p := ⟨Rf1, 1, none⟩) ltf1).trans cc1, (hk.cell (p := ⟨Rf1 + 1, 0, none⟩) ltf12).trans cc2, (hk.cell (p := ⟨Rf1 + 1, 1, none⟩) ltf12).trans cc3, (hk.cell (p := ⟨Rf2, 0, none⟩) ltf2).trans cc4, (hk.cell (p := ⟨Rf2, 1, none⟩) ltf2).trans cc5, (hk.cell (p := ⟨Rf2 + 1, 0, none⟩) ltf22).trans cc6, (hk.cell (p := ⟨Rf2 + 1, 1, none⟩) ltf22).trans cc7, (hk.cell (p := ⟨Rv, 0, none⟩) ltv).trans cc8, (hk.cell (p := ⟨Rv, 1, none⟩) ltv).trans cc9, hk⟩))
            (first
              | (go_at_call 92; go_split_ands; (with_reducible refine (HV.out.g (fg1.below (by assumption)) (fg2.below (by assumption))).mono ?_); rintro e wq ⟨y5, rfl, j5, bb⟩; obtain ⟨ao7, k7, cap7, ao8, k8, cap8, rfl, -, -, -⟩ := id j5.slice)
              | (go_at_call 49; go_split_ands; (with_reducible refine (same_ok (fv.below (by assumption)) j5 512 (by omega) HV.out.b.1 HV.out.b.2).mono ?_); rintro e wq ⟨rfl, bb⟩)
              | (go_at_call 31; go_split_ands; refine (awake_any _).mono ?_; rintro e wq ⟨rfl, bb⟩))
          go_split_ands
          have hC := nextB hB (by assumption)
          go_wp2
          go_ret
          exact ⟨rfl, hC⟩

end Go.Proofs.Ytppbhjhbaknidaa
