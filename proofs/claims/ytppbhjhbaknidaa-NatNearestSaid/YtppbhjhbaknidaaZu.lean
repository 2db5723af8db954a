/-
  The walk of the law NatFracField. Condition: the library variable internal/bytealg.MaxLen holds some int.
-/
import Derived.Test.YtppbhjhbaknidaaZt
set_option linter.unusedVariables false
set_option linter.unusedSimpArgs false

/-
  The walk of the law NatFracField. Condition: the library variable internal/bytealg.MaxLen holds some int.
-/
set_option linter.unusedVariables false
set_option linter.unusedSimpArgs false
namespace Go.Proofs.Ytppbhjhbaknidaa
open Go.RowKit

/-- n by d, in lowest terms and below 2^L, is A by B. -/
structure Fr (n d A B L : Nat) : Prop where
  d0 : 0 < d
  b0 : 0 < B
  eq : n * B = A * d
  nl : n < P2 L
  dl : d < P2 L
  low : Nat.gcd n d = 1
theorem Fr.mono {n d A B L L' : Nat} (h : Fr n d A B L) (hl : L ≤ L') : Fr n d A B L' := ⟨h.d0, h.b0, h.eq, lt_P2_mono h.nl hl, lt_P2_mono h.dl hl, h.low⟩
theorem fr_self {p q : Nat} (h : 0 < q ∧ Nat.gcd p q = 1 ∧ p < P2 (16 * 8) ∧ q < P2 (16 * 8)) : Fr p q p q 128 := ⟨h.1, h.1, rfl, h.2.2.1, h.2.2.2, h.2.1⟩
theorem fr_red {X Y A B L : Nat} (hY : 0 < Y) (hB : 0 < B) (h : X * B = A * Y) (hX : X < P2 L) (hYl : Y < P2 L) : Fr (X / Nat.gcd X Y) (Y / Nat.gcd X Y) A B L := by
  have hf := low_facts hY hX hYl
  refine ⟨hf.1, hB, ?_, hf.2.2.1, hf.2.2.2, hf.2.1⟩
  have hg := Nat.gcd_pos_of_pos_right X hY
  refine Nat.eq_of_mul_eq_mul_left hg ?_
  have e1 : Nat.gcd X Y * (X / Nat.gcd X Y) = X := Nat.mul_div_cancel' (Nat.gcd_dvd_left X Y)
  have e2 : Nat.gcd X Y * (Y / Nat.gcd X Y) = Y := Nat.mul_div_cancel' (Nat.gcd_dvd_right X Y)
  rw [← Nat.mul_assoc, e1, Nat.mul_left_comm, e2, h]
theorem Fr.ok {n d A B L : Nat} (h : Fr n d A B L) (hL : L ≤ 16384) : withinE n d = 0 := within_ok (lt_P2_mono h.nl hL) (lt_P2_mono h.dl hL)
theorem Fr.add {n d A B n' d' A' B' L : Nat} (h1 : Fr n d A B L) (h2 : Fr n' d' A' B' L) (hL : 2 * L + 1 ≤ 16384) :
    ∃ N D, Fr N D (A * B' + A' * B) (B * B') (2 * L + 1) ∧ ∀ {w : World} {f g : Value}, IsF w f n d → IsF w g n' d' → Calls Try.prog 64 #[f, g] w (RetF0 w N D) := by
  have hb := add_bd h1.nl h1.dl h2.nl h2.dl
  have e : (n * d' + n' * d) * (B * B') = (A * B' + A' * B) * (d * d') := by
    have a : n * d' * (B * B') = A * B' * (d * d') := by
      rw [show n * d' * (B * B') = n * B * (d' * B') from by simp only [Nat.mul_comm, Nat.mul_left_comm, Nat.mul_assoc], h1.eq]; simp only [Nat.mul_comm, Nat.mul_left_comm, Nat.mul_assoc]
    have b : n' * d * (B * B') = A' * B * (d * d') := by
      rw [show n' * d * (B * B') = n' * B' * (d * B) from by simp only [Nat.mul_comm, Nat.mul_left_comm, Nat.mul_assoc], h2.eq]; simp only [Nat.mul_comm, Nat.mul_left_comm, Nat.mul_assoc]
    rw [Nat.add_mul, Nat.add_mul, a, b]
  have hr := fr_red (Nat.mul_pos h1.d0 h2.d0) (Nat.mul_pos h1.b0 h2.b0) e hb.1 hb.2
  exact ⟨_, _, hr, fun i j => (FAdd_any i j L (by omega) h1.nl h1.dl h2.nl h2.dl).mono fun e w' h => h.ok (hr.ok hL)⟩
theorem Fr.mul {n d A B n' d' A' B' L : Nat} (h1 : Fr n d A B L) (h2 : Fr n' d' A' B' L) (hL : 2 * L + 1 ≤ 16384) :
    ∃ N D, Fr N D (A * A') (B * B') (2 * L + 1) ∧ ∀ {w : World} {f g : Value}, IsF w f n d → IsF w g n' d' → Calls Try.prog 84 #[f, g] w (RetF0 w N D) := by
  have e : n * n' * (B * B') = A * A' * (d * d') := by
    rw [show n * n' * (B * B') = n * B * (n' * B') from by simp only [Nat.mul_comm, Nat.mul_left_comm, Nat.mul_assoc], h1.eq, h2.eq]; simp only [Nat.mul_comm, Nat.mul_left_comm, Nat.mul_assoc]
  have hr := fr_red (Nat.mul_pos h1.d0 h2.d0) (Nat.mul_pos h1.b0 h2.b0) e (L := 2 * L + 1) (lt_P2_mono (mul_lt_P2 h1.nl h2.nl) (by omega)) (lt_P2_mono (mul_lt_P2 h1.dl h2.dl) (by omega))
  exact ⟨_, _, hr, fun i j => (FMul_any i j L (by omega) h1.nl h1.dl h2.nl h2.dl).mono fun e w' h => h.ok (hr.ok hL)⟩
theorem Fr.div {n d A B n' d' A' B' L : Nat} (h1 : Fr n d A B L) (h2 : Fr n' d' A' B' L) (hL : 2 * L + 1 ≤ 16384) (hn : 0 < n') (hA : 0 < A') :
    ∃ N D, Fr N D (A * B') (B * A') (2 * L + 1) ∧ ∀ {w : World} {f g : Value}, IsF w f n d → IsF w g n' d' → Calls Try.prog 91 #[f, g] w (RetF0 w N D) := by
  have e : n * d' * (B * A') = A * B' * (d * n') := by
    rw [show n * d' * (B * A') = n * B * (A' * d') from by simp only [Nat.mul_comm, Nat.mul_left_comm, Nat.mul_assoc], h1.eq, ← h2.eq]; simp only [Nat.mul_comm, Nat.mul_left_comm, Nat.mul_assoc]
  have hr := fr_red (Nat.mul_pos h1.d0 hn) (Nat.mul_pos h1.b0 hA) e (L := 2 * L + 1) (lt_P2_mono (mul_lt_P2 h1.nl h2.dl) (by omega)) (lt_P2_mono (mul_lt_P2 h1.dl h2.nl) (by omega))
  exact ⟨_, _, hr, fun i j => (FDiv_any i j hn L (by omega) h1.nl h1.dl h2.nl h2.dl).mono fun e w' h => h.ok (hr.ok hL)⟩
theorem Fr.sub {n d A B n' d' A' B' L : Nat} (h1 : Fr n d A B L) (h2 : Fr n' d' A' B' L) (hL : 2 * L + 1 ≤ 16384) (hle : n' * d ≤ n * d') :
    ∃ N D, Fr N D (A * B' - A' * B) (B * B') (2 * L + 1) ∧ ∀ {w : World} {f g : Value}, IsF w f n d → IsF w g n' d' → Calls Try.prog 89 #[f, g] w (RetF0 w N D) := by
  have e : (n * d' - n' * d) * (B * B') = (A * B' - A' * B) * (d * d') := by
    have a : n * d' * (B * B') = A * B' * (d * d') := by
      rw [show n * d' * (B * B') = n * B * (d' * B') from by simp only [Nat.mul_comm, Nat.mul_left_comm, Nat.mul_assoc], h1.eq]; simp only [Nat.mul_comm, Nat.mul_left_comm, Nat.mul_assoc]
    have b : n' * d * (B * B') = A' * B * (d * d') := by
      rw [show n' * d * (B * B') = n' * B' * (d * B) from by simp only [Nat.mul_comm, Nat.mul_left_comm, Nat.mul_assoc], h2.eq]; simp only [Nat.mul_comm, Nat.mul_left_comm, Nat.mul_assoc]
    rw [Nat.sub_mul, Nat.sub_mul, a, b]
  have hr := fr_red (Nat.mul_pos h1.d0 h2.d0) (Nat.mul_pos h1.b0 h2.b0) e (L := 2 * L + 1) (lt_P2_mono (Nat.lt_of_le_of_lt (Nat.sub_le _ _) (mul_lt_P2 h1.nl h2.dl)) (by omega)) (lt_P2_mono (mul_lt_P2 h1.dl h2.dl) (by omega))
  exact ⟨_, _, hr, fun i j => (FSub_any i j hle L (by omega) h1.nl h1.dl h2.nl h2.dl).mono fun e w' h => h.ok (hr.ok hL)⟩
theorem Fr.cmp0 {n d A B n' d' A' B' L : Nat} (h1 : Fr n d A B L) (h2 : Fr n' d' A' B' L) (hL : L ≤ 16384) (e : A * B' = A' * B) {w : World} {f g : Value} (i : IsF w f n d) (j : IsF w g n' d') : Calls Try.prog 63 #[f, g] w (RetI w 0) := by
  have h := FCmp_any i j L hL h1.nl h1.dl h2.nl h2.dl
  have hx : n * d' = n' * d := by
    refine Nat.eq_of_mul_eq_mul_right (Nat.mul_pos h1.b0 h2.b0) ?_
    rw [show n * d' * (B * B') = n * B * (d' * B') from by simp only [Nat.mul_comm, Nat.mul_left_comm, Nat.mul_assoc], h1.eq,
      show n' * d * (B * B') = n' * B' * (d * B) from by simp only [Nat.mul_comm, Nat.mul_left_comm, Nat.mul_assoc], h2.eq,
      show A * d * (d' * B') = A * B' * (d * d') from by simp only [Nat.mul_comm, Nat.mul_left_comm, Nat.mul_assoc], e]
    simp only [Nat.mul_comm, Nat.mul_left_comm, Nat.mul_assoc]
  rw [hx, cmpI_self] at h
  exact h

structure FieldC (p1 q1 p2 q2 p3 q3 Sn Sd Tn Td Un Ud Vn Vd Pn Pd Qn Qd Rn Rd Wn Wd : Nat) : Prop where
  s : ∀ {w : World} {f g : Value}, IsF w f p1 q1 → IsF w g p2 q2 → Calls Try.prog 64 #[f, g] w (RetF0 w Sn Sd)
  t : ∀ {w : World} {f g : Value}, IsF w f Sn Sd → IsF w g p3 q3 → Calls Try.prog 64 #[f, g] w (RetF0 w Tn Td)
  u : ∀ {w : World} {f g : Value}, IsF w f p2 q2 → IsF w g p3 q3 → Calls Try.prog 64 #[f, g] w (RetF0 w Un Ud)
  v : ∀ {w : World} {f g : Value}, IsF w f p1 q1 → IsF w g Un Ud → Calls Try.prog 64 #[f, g] w (RetF0 w Vn Vd)
  p : ∀ {w : World} {f g : Value}, IsF w f p1 q1 → IsF w g Un Ud → Calls Try.prog 84 #[f, g] w (RetF0 w Pn Pd)
  q : ∀ {w : World} {f g : Value}, IsF w f p1 q1 → IsF w g p2 q2 → Calls Try.prog 84 #[f, g] w (RetF0 w Qn Qd)
  r : ∀ {w : World} {f g : Value}, IsF w f p1 q1 → IsF w g p3 q3 → Calls Try.prog 84 #[f, g] w (RetF0 w Rn Rd)
  w : ∀ {w : World} {f g : Value}, IsF w f Qn Qd → IsF w g Rn Rd → Calls Try.prog 64 #[f, g] w (RetF0 w Wn Wd)
  str : ∀ {w : World} {f : Value}, IsF w f Tn Td → Calls Try.prog 47 #[f] w (RetS w (ftxt Tn Td))
  pf : ∀ {w : World}, MaxV w → Calls Try.prog 96 #[.string (ftxt Tn Td)] w (RetF0 w Tn Td)
  ctv : ∀ {w : World} {f g : Value}, IsF w f Tn Td → IsF w g Vn Vd → Calls Try.prog 63 #[f, g] w (RetI w 0)
  cpw : ∀ {w : World} {f g : Value}, IsF w f Pn Pd → IsF w g Wn Wd → Calls Try.prog 63 #[f, g] w (RetI w 0)
  ctt : ∀ {w : World} {f g : Value}, IsF w f Tn Td → IsF w g Tn Td → Calls Try.prog 63 #[f, g] w (RetI w 0)
  fs : Fr Sn Sd (p1 * q2 + p2 * q1) (q1 * q2) 1600
  fq : Fr Qn Qd (p1 * p2) (q1 * q2) 1600
abbrev Frac8 (p q : Nat) : Prop := 0 < q ∧ Nat.gcd p q = 1 ∧ p < P2 (16 * 8) ∧ q < P2 (16 * 8)
theorem ftxt_size {n d L : Nat} (hn : n < P2 L) (hd : d < P2 L) : (ftxt n d).size ≤ 2 * L + 3 := by
  have a := txt_size hn
  have b := txt_size hd
  unfold ftxt
  split
  · omega
  · rw [ByteArray.size_append, ByteArray.size_append]
    have : (⟨#[47]⟩ : ByteArray).size = 1 := rfl
    omega
theorem field_tv {p1 q1 p2 q2 p3 q3 : Nat} : ((p1 * q2 + p2 * q1) * q3 + p3 * (q1 * q2)) * (q1 * (q2 * q3)) = (p1 * (q2 * q3) + (p2 * q3 + p3 * q2) * q1) * (q1 * q2 * q3) := by
  simp only [Nat.add_mul, Nat.mul_add, Nat.mul_comm, Nat.mul_left_comm, Nat.mul_assoc]
  omega
theorem field_pw {p1 q1 p2 q2 p3 q3 : Nat} : p1 * (p2 * q3 + p3 * q2) * (q1 * q2 * (q1 * q3)) = (p1 * p2 * (q1 * q3) + p1 * p3 * (q1 * q2)) * (q1 * (q2 * q3)) := by
  simp only [Nat.add_mul, Nat.mul_add, Nat.mul_comm, Nat.mul_left_comm, Nat.mul_assoc]
theorem fieldC {p1 q1 p2 q2 p3 q3 : Nat} (h1 : Frac8 p1 q1) (h2 : Frac8 p2 q2) (h3 : Frac8 p3 q3) : ∃ Sn Sd Tn Td Un Ud Vn Vd Pn Pd Qn Qd Rn Rd Wn Wd, FieldC p1 q1 p2 q2 p3 q3 Sn Sd Tn Td Un Ud Vn Vd Pn Pd Qn Qd Rn Rd Wn Wd := by
  have f1 := fr_self h1
  have f2 := fr_self h2
  have f3 := fr_self h3
  obtain ⟨Sn, Sd, fs, cs⟩ := f1.add f2 (by omega)
  obtain ⟨Tn, Td, ft, ct⟩ := fs.add (f3.mono (show 128 ≤ 2 * 128 + 1 by omega)) (by omega)
  obtain ⟨Un, Ud, fu, cu⟩ := f2.add f3 (by omega)
  obtain ⟨Vn, Vd, fv, cv⟩ := (f1.mono (show 128 ≤ 2 * 128 + 1 by omega)).add fu (by omega)
  obtain ⟨Pn, Pd, fp, cp⟩ := (f1.mono (show 128 ≤ 2 * 128 + 1 by omega)).mul fu (by omega)
  obtain ⟨Qn, Qd, fq, cq⟩ := f1.mul f2 (by omega)
  obtain ⟨Rn, Rd, fr, cr⟩ := f1.mul f3 (by omega)
  obtain ⟨Wn, Wd, fw, cw⟩ := fq.add fr (by omega)
  have ft2 := ft.mono (show 2 * (2 * 128 + 1) + 1 ≤ 1600 by omega)
  obtain ⟨k, hk, e1, e2, e3⟩ := pf_text (lt_P2_mono ft.nl (by omega)) (lt_P2_mono ft.dl (by omega)) ft.d0 ft.low
  refine ⟨Sn, Sd, Tn, Td, Un, Ud, Vn, Vd, Pn, Pd, Qn, Qd, Rn, Rd, Wn, Wd, ⟨cs, ct, cu, cv, cp, cq, cr, cw, fun i => FString_any i 1600 (by omega) ft2.nl ft2.dl, fun hm => ?_,
    fun i j => ft2.cmp0 (fv.mono (by omega)) (by omega) field_tv i j, fun i j => (fp.mono (show _ ≤ 1600 by omega)).cmp0 (fw.mono (by omega)) (by omega) field_pw i j, fun i j => ft2.cmp0 ft2 (by omega) rfl i j, fs.mono (by omega), fq.mono (by omega)⟩⟩
  have := parseFrac_any (ftxt Tn Td) _ k (by have := ftxt_size ft2.nl ft2.dl; omega) hk hm
  rw [e1, e2, e3] at this
  exact this.mono fun e w' h => h.ok rfl

structure FieldD (p1 q1 p2 q2 Sn Sd Qn Qd Xn Xd Yn Yd : Nat) : Prop where
  x : ∀ {w : World} {f g : Value}, IsF w f Qn Qd → IsF w g p2 q2 → Calls Try.prog 91 #[f, g] w (RetF0 w Xn Xd)
  y : ∀ {w : World} {f g : Value}, IsF w f Sn Sd → IsF w g p2 q2 → Calls Try.prog 89 #[f, g] w (RetF0 w Yn Yd)
  cx : ∀ {w : World} {f g : Value}, IsF w f Xn Xd → IsF w g p1 q1 → Calls Try.prog 63 #[f, g] w (RetI w 0)
  cy : ∀ {w : World} {f g : Value}, IsF w f Yn Yd → IsF w g p1 q1 → Calls Try.prog 63 #[f, g] w (RetI w 0)
theorem fieldD {p1 q1 p2 q2 Sn Sd Qn Qd : Nat} (h1 : Frac8 p1 q1) (h2 : Frac8 p2 q2) (fs : Fr Sn Sd (p1 * q2 + p2 * q1) (q1 * q2) 1600) (fq : Fr Qn Qd (p1 * p2) (q1 * q2) 1600) (hp : 0 < p2) : ∃ Xn Xd Yn Yd, FieldD p1 q1 p2 q2 Sn Sd Qn Qd Xn Xd Yn Yd := by
  have f1 := fr_self h1
  have f2 := fr_self h2
  have hle : p2 * Sd ≤ Sn * q2 := by
    refine Nat.le_of_mul_le_mul_right (c := q1 * q2) ?_ fs.b0
    rw [show Sn * q2 * (q1 * q2) = Sn * (q1 * q2) * q2 from Nat.mul_right_comm .., fs.eq]
    have : (p1 * q2 + p2 * q1) * Sd * q2 = p1 * q2 * Sd * q2 + p2 * Sd * (q1 * q2) := by
      simp only [Nat.add_mul, Nat.mul_add, Nat.mul_comm, Nat.mul_left_comm, Nat.mul_assoc]
    omega
  obtain ⟨Xn, Xd, fx, cx⟩ := fq.div (f2.mono (show 128 ≤ 1600 by omega)) (by omega) hp hp
  obtain ⟨Yn, Yd, fy, cy⟩ := fs.sub (f2.mono (show 128 ≤ 1600 by omega)) (by omega) hle
  refine ⟨Xn, Xd, Yn, Yd, ⟨cx, cy, fun i j => fx.cmp0 (f1.mono (by omega)) (by omega) ?_ i j, fun i j => fy.cmp0 (f1.mono (by omega)) (by omega) ?_ i j⟩⟩
  · simp only [Nat.mul_comm, Nat.mul_left_comm, Nat.mul_assoc]
  · have e : (p1 * q2 + p2 * q1) * q2 = p1 * q2 * q2 + p2 * (q1 * q2) := by
      simp only [Nat.add_mul, Nat.mul_add, Nat.mul_comm, Nat.mul_left_comm, Nat.mul_assoc]
    rw [e, Nat.add_sub_cancel]
    simp only [Nat.mul_comm, Nat.mul_left_comm, Nat.mul_assoc]
theorem blen_zero : blen 0 = 0 := by
  have h : blen 0 ≤ 0 := blen_le.2 (P2_pos 0)
  omega
theorem blen_eq_zero {n : Nat} (h : blen n = 0) : n = 0 := by
  have h1 : n < P2 0 := blen_le.1 (Nat.le_of_eq h)
  have h2 : P2 0 = 1 := rfl
  omega

set_option maxHeartbeats 32000000 in
set_option maxRecDepth 100000 in
theorem NatFracField_walk (va : Value) (vb : Value) (vc : Value) (vd : Value) (vm : Value) (vk : Value) (w : World) (ia : In16 w va) (ib : In16 w vb) (ic : In16 w vc) (id : In16 w vd) (im : In16 w vm) (ik : In16 w vk) (hm : MaxV w) :
    Calls Try.prog 30 #[va, vb, vc, vd, vm, vk] w (RetB w true) := by
  have hB := Below.refl w.heap.size w
  go_enter Try.func30, Try.ntmps30
  go_wp2_with fail
  refine (half_any ia ib 8 (by omega) (by omega)).mono ?_
  rintro e w1 ⟨ok1, p1, q1, v_, aog1, aoh1, kg1, capg1, kh1, caph1, rfl, HH1, jf, jg, b⟩
  clear jg
  replace hB := nextB hB b
  replace ia := ia.below b
  replace ib := ib.below b
  replace ic := ic.below b
  replace id := id.below b
  replace im := im.below b
  replace ik := ik.below b
  replace hm := hm.below b
  clear b
  replace HH1 := Lib.hid HH1.out
  have ff1 := jf
  obtain ⟨aof1, qf1, capf1, aof12, qf12, capf12, rfl, -, -, -⟩ := ff1.slice
  clear jf
  obtain ⟨b, kf1, kf12⟩ := profg w1 (.slice aof1 qf1 capf1) (.slice aof12 qf12 capf12) (.slice aog1 kg1 capg1) (.slice aoh1 kh1 caph1)
  obtain ⟨Rf1, hRf1⟩ : ∃ R, R = w1.heap.size := ⟨_, rfl⟩
  have cc0 := kf1.cell0
  have cc1 := kf1.cell1
  have cc2 := kf12.cell0
  have cc3 := kf12.cell1
  go_wp2_with fail
  obtain ⟨w2, hw⟩ : ∃ w_ : World, w_ = ((w1.alloc (.cells #[.slice aof1 qf1 capf1, .slice aof12 qf12 capf12] 50)).alloc (.cells #[.slice aog1 kg1 capg1, .slice aoh1 kh1 caph1] 55)) := ⟨_, rfl⟩
  rw [← hw] at b kf1 kf12 ⊢
  rw [← hRf1] at kf1 kf12 ⊢
  clear hw hRf1 cc0 cc1 cc2 cc3
  replace hB := nextB hB b
  replace ia := ia.below b
  replace ib := ib.below b
  replace ic := ic.below b
  replace id := id.below b
  replace im := im.below b
  replace ik := ik.below b
  replace hm := hm.below b
  replace ff1 := ff1.below b
  clear b
  clear kf12
  clear ia ib
  refine (half_any ic id 8 (by omega) (by omega)).mono ?_
  rintro e w3 ⟨ok2, p2, q2, v_, aog2, aoh2, kg2, capg2, kh2, caph2, rfl, HH2, jf, jg, b⟩
  clear jg
  replace hB := nextB hB b
  replace ic := ic.below b
  replace id := id.below b
  replace im := im.below b
  replace ik := ik.below b
  replace hm := hm.below b
  replace ff1 := ff1.below b
  replace kf1 := kf1.below b
  clear b
  replace HH2 := Lib.hid HH2.out
  have ff2 := jf
  obtain ⟨aof2, qf2, capf2, aof22, qf22, capf22, rfl, -, -, -⟩ := ff2.slice
  clear jf
  obtain ⟨b, kf2, kf22⟩ := profg w3 (.slice aof2 qf2 capf2) (.slice aof22 qf22 capf22) (.slice aog2 kg2 capg2) (.slice aoh2 kh2 caph2)
  obtain ⟨Rf2, hRf2⟩ : ∃ R, R = w3.heap.size := ⟨_, rfl⟩
  have cc0 := (kf1.below b).cell0
  have cc1 := (kf1.below b).cell1
  have cc2 := kf2.cell0
  have cc3 := kf2.cell1
  have cc4 := kf22.cell0
  have cc5 := kf22.cell1
  go_wp2_with fail
  obtain ⟨w4, hw⟩ : ∃ w_ : World, w_ = ((w3.alloc (.cells #[.slice aof2 qf2 capf2, .slice aof22 qf22 capf22] 50)).alloc (.cells #[.slice aog2 kg2 capg2, .slice aoh2 kh2 caph2] 55)) := ⟨_, rfl⟩
  rw [← hw] at b kf2 kf22 ⊢
  rw [← hRf2] at kf2 kf22 ⊢
  clear hw hRf2 cc0 cc1 cc2 cc3 cc4 cc5
  replace hB := nextB hB b
  replace ic := ic.below b
  replace id := id.below b
  replace im := im.below b
  replace ik := ik.below b
  replace hm := hm.below b
  replace ff1 := ff1.below b
  replace kf1 := kf1.below b
  replace ff2 := ff2.below b
  clear b
  clear kf22
  clear ic id
  refine (half_any im ik 8 (by omega) (by omega)).mono ?_
  rintro e w5 ⟨ok3, p3, q3, v_, aog3, aoh3, kg3, capg3, kh3, caph3, rfl, HH3, jf, jg, b⟩
  clear jg
  replace hB := nextB hB b
  replace im := im.below b
  replace ik := ik.below b
  replace hm := hm.below b
  replace ff1 := ff1.below b
  replace kf1 := kf1.below b
  replace ff2 := ff2.below b
  replace kf2 := kf2.below b
  clear b
  replace HH3 := Lib.hid HH3.out
  have ff3 := jf
  obtain ⟨aof3, qf3, capf3, aof32, qf32, capf32, rfl, -, -, -⟩ := ff3.slice
  clear jf
  clear im ik
  cases ok1
  · obtain ⟨b, kf3, kf32⟩ := profg w5 (.slice aof3 qf3 capf3) (.slice aof32 qf32 capf32) (.slice aog3 kg3 capg3) (.slice aoh3 kh3 caph3)
    obtain ⟨Rf3, hRf3⟩ : ∃ R, R = w5.heap.size := ⟨_, rfl⟩
    have cc0 := (kf1.below b).cell0
    have cc1 := (kf1.below b).cell1
    have cc2 := (kf2.below b).cell0
    have cc3 := (kf2.below b).cell1
    have cc4 := kf3.cell0
    have cc5 := kf3.cell1
    have cc6 := kf32.cell0
    have cc7 := kf32.cell1
    go_wp2_with fail
    obtain ⟨w6, hw⟩ : ∃ w_ : World, w_ = ((w5.alloc (.cells #[.slice aof3 qf3 capf3, .slice aof32 qf32 capf32] 50)).alloc (.cells #[.slice aog3 kg3 capg3, .slice aoh3 kh3 caph3] 55)) := ⟨_, rfl⟩
    rw [← hw] at b kf3 kf32 ⊢
    rw [← hRf3] at kf3 kf32 ⊢
    clear hw hRf3 cc0 cc1 cc2 cc3 cc4 cc5 cc6 cc7
    replace hB := nextB hB b
    replace hm := hm.below b
    replace ff1 := ff1.below b
    replace kf1 := kf1.below b
    replace ff2 := ff2.below b
    replace kf2 := kf2.below b
    replace ff3 := ff3.below b
    clear b
    clear kf32
    refine (awake_any _).mono ?_
    rintro e w7 ⟨rfl, b⟩
    replace hB := nextB hB b
    replace hm := hm.below b
    replace ff1 := ff1.below b
    replace kf1 := kf1.below b
    replace ff2 := ff2.below b
    replace kf2 := kf2.below b
    replace ff3 := ff3.below b
    replace kf3 := kf3.below b
    clear b
    go_wp2
    go_ret
    exact ⟨rfl, hB⟩
  · cases ok2
    · obtain ⟨b, kf3, kf32⟩ := profg w5 (.slice aof3 qf3 capf3) (.slice aof32 qf32 capf32) (.slice aog3 kg3 capg3) (.slice aoh3 kh3 caph3)
      obtain ⟨Rf3, hRf3⟩ : ∃ R, R = w5.heap.size := ⟨_, rfl⟩
      have cc0 := (kf1.below b).cell0
      have cc1 := (kf1.below b).cell1
      have cc2 := (kf2.below b).cell0
      have cc3 := (kf2.below b).cell1
      have cc4 := kf3.cell0
      have cc5 := kf3.cell1
      have cc6 := kf32.cell0
      have cc7 := kf32.cell1
      go_wp2_with fail
      obtain ⟨w6, hw⟩ : ∃ w_ : World, w_ = ((w5.alloc (.cells #[.slice aof3 qf3 capf3, .slice aof32 qf32 capf32] 50)).alloc (.cells #[.slice aog3 kg3 capg3, .slice aoh3 kh3 caph3] 55)) := ⟨_, rfl⟩
      rw [← hw] at b kf3 kf32 ⊢
      rw [← hRf3] at kf3 kf32 ⊢
      clear hw hRf3 cc0 cc1 cc2 cc3 cc4 cc5 cc6 cc7
      replace hB := nextB hB b
      replace hm := hm.below b
      replace ff1 := ff1.below b
      replace kf1 := kf1.below b
      replace ff2 := ff2.below b
      replace kf2 := kf2.below b
      replace ff3 := ff3.below b
      clear b
      clear kf32
      refine (awake_any _).mono ?_
      rintro e w7 ⟨rfl, b⟩
      replace hB := nextB hB b
      replace hm := hm.below b
      replace ff1 := ff1.below b
      replace kf1 := kf1.below b
      replace ff2 := ff2.below b
      replace kf2 := kf2.below b
      replace ff3 := ff3.below b
      replace kf3 := kf3.below b
      clear b
      go_wp2
      go_ret
      exact ⟨rfl, hB⟩
    · cases ok3
      · obtain ⟨b, kf3, kf32⟩ := profg w5 (.slice aof3 qf3 capf3) (.slice aof32 qf32 capf32) (.slice aog3 kg3 capg3) (.slice aoh3 kh3 caph3)
        obtain ⟨Rf3, hRf3⟩ : ∃ R, R = w5.heap.size := ⟨_, rfl⟩
        have cc0 := (kf1.below b).cell0
        have cc1 := (kf1.below b).cell1
        have cc2 := (kf2.below b).cell0
        have cc3 := (kf2.below b).cell1
        have cc4 := kf3.cell0
        have cc5 := kf3.cell1
        have cc6 := kf32.cell0
        have cc7 := kf32.cell1
        go_wp2_with fail
        obtain ⟨w6, hw⟩ : ∃ w_ : World, w_ = ((w5.alloc (.cells #[.slice aof3 qf3 capf3, .slice aof32 qf32 capf32] 50)).alloc (.cells #[.slice aog3 kg3 capg3, .slice aoh3 kh3 caph3] 55)) := ⟨_, rfl⟩
        rw [← hw] at b kf3 kf32 ⊢
        rw [← hRf3] at kf3 kf32 ⊢
        clear hw hRf3 cc0 cc1 cc2 cc3 cc4 cc5 cc6 cc7
        replace hB := nextB hB b
        replace hm := hm.below b
        replace ff1 := ff1.below b
        replace kf1 := kf1.below b
        replace ff2 := ff2.below b
        replace kf2 := kf2.below b
        replace ff3 := ff3.below b
        clear b
        clear kf32
        refine (awake_any _).mono ?_
        rintro e w7 ⟨rfl, b⟩
        replace hB := nextB hB b
        replace hm := hm.below b
        replace ff1 := ff1.below b
        replace kf1 := kf1.below b
        replace ff2 := ff2.below b
        replace kf2 := kf2.below b
        replace ff3 := ff3.below b
        replace kf3 := kf3.below b
        clear b
        go_wp2
        go_ret
        exact ⟨rfl, hB⟩
      · obtain ⟨b, kf3, kf32⟩ := profg w5 (.slice aof3 qf3 capf3) (.slice aof32 qf32 capf32) (.slice aog3 kg3 capg3) (.slice aoh3 kh3 caph3)
        obtain ⟨Rf3, hRf3⟩ : ∃ R, R = w5.heap.size := ⟨_, rfl⟩
        have cc0 := (kf1.below b).cell0
        have cc1 := (kf1.below b).cell1
        have cc2 := (kf2.below b).cell0
        have cc3 := (kf2.below b).cell1
        have cc4 := kf3.cell0
        have cc5 := kf3.cell1
        have cc6 := kf32.cell0
        have cc7 := kf32.cell1
        go_wp2_with fail
        obtain ⟨w6, hw⟩ : ∃ w_ : World, w_ = ((w5.alloc (.cells #[.slice aof3 qf3 capf3, .slice aof32 qf32 capf32] 50)).alloc (.cells #[.slice aog3 kg3 capg3, .slice aoh3 kh3 caph3] 55)) := ⟨_, rfl⟩
        rw [← hw] at b kf3 kf32 ⊢
        rw [← hRf3] at kf3 kf32 ⊢
        clear hw hRf3 cc0 cc1 cc2 cc3 cc4 cc5 cc6 cc7
        replace hB := nextB hB b
        replace hm := hm.below b
        replace ff1 := ff1.below b
        replace kf1 := kf1.below b
        replace ff2 := ff2.below b
        replace kf2 := kf2.below b
        replace ff3 := ff3.below b
        clear b
        clear kf32
        obtain ⟨Sn, Sd, Tn, Td, Un, Ud, Vn, Vd, Pn, Pd, Qn, Qd, Rn, Rd, Wn, Wd, HC_⟩ := fieldC HH1.out HH2.out HH3.out
        have HC := Lib.hid HC_
        clear HC_
        refine (HC.out.s ff1 ff2).mono ?_
        rintro e w7 ⟨v_, rfl, j_, b⟩
        replace hB := nextB hB b
        replace hm := hm.below b
        replace ff1 := ff1.below b
        replace kf1 := kf1.below b
        replace ff2 := ff2.below b
        replace kf2 := kf2.below b
        replace ff3 := ff3.below b
        replace kf3 := kf3.below b
        clear b
        have fs := j_
        obtain ⟨aos, qs, caps, aos2, qs2, caps2, rfl, -, -, -⟩ := fs.slice
        clear j_
        obtain ⟨b, ks⟩ := prof w7 (.slice aos qs caps) (.slice aos2 qs2 caps2)
        obtain ⟨Rs, hRs⟩ : ∃ R, R = w7.heap.size := ⟨_, rfl⟩
        have hles : w.heap.size ≤ Rs := by rw [hRs]; exact hB.size
        have cc0 := (kf1.below b).cell0
        have cc1 := (kf1.below b).cell1
        have cc2 := (kf2.below b).cell0
        have cc3 := (kf2.below b).cell1
        have cc4 := (kf3.below b).cell0
        have cc5 := (kf3.below b).cell1
        have cc6 := ks.cell0
        have cc7 := ks.cell1
        go_wp2_with fail
        obtain ⟨w8, hw⟩ : ∃ w_ : World, w_ = (w7.alloc (.cells #[.slice aos qs caps, .slice aos2 qs2 caps2] 50)) := ⟨_, rfl⟩
        rw [← hw] at b ks ⊢
        rw [← hRs] at ks ⊢
        clear hw hRs cc0 cc1 cc2 cc3 cc4 cc5 cc6 cc7
        replace hB := nextB hB b
        replace hm := hm.below b
        replace ff1 := ff1.below b
        replace kf1 := kf1.below b
        replace ff2 := ff2.below b
        replace kf2 := kf2.below b
        replace ff3 := ff3.below b
        replace kf3 := kf3.below b
        replace fs := fs.below b
        clear b
        refine (HC.out.t fs ff3).mono ?_
        rintro e w9 ⟨v_, rfl, j_, b⟩
        replace hB := nextB hB b
        replace hm := hm.below b
        replace ff1 := ff1.below b
        replace kf1 := kf1.below b
        replace ff2 := ff2.below b
        replace kf2 := kf2.below b
        replace ff3 := ff3.below b
        replace kf3 := kf3.below b
        replace fs := fs.below b
        replace ks := ks.below b
        clear b
        have ft := j_
        obtain ⟨aot, qt, capt, aot2, qt2, capt2, rfl, -, -, -⟩ := ft.slice
        clear j_
        obtain ⟨b, kt⟩ := prof w9 (.slice aot qt capt) (.slice aot2 qt2 capt2)
        obtain ⟨Rt, hRt⟩ : ∃ R, R = w9.heap.size := ⟨_, rfl⟩
        have hlet : w.heap.size ≤ Rt := by rw [hRt]; exact hB.size
        have cc0 := (kf1.below b).cell0
        have cc1 := (kf1.below b).cell1
        have cc2 := (kf2.below b).cell0
        have cc3 := (kf2.below b).cell1
        have cc4 := (kf3.below b).cell0
        have cc5 := (kf3.below b).cell1
        have cc6 := (ks.below b).cell0
        have cc7 := (ks.below b).cell1
        have cc8 := kt.cell0
        have cc9 := kt.cell1
        go_wp2_with fail
        obtain ⟨w10, hw⟩ : ∃ w_ : World, w_ = (w9.alloc (.cells #[.slice aot qt capt, .slice aot2 qt2 capt2] 50)) := ⟨_, rfl⟩
        rw [← hw] at b kt ⊢
        rw [← hRt] at kt ⊢
        clear hw hRt cc0 cc1 cc2 cc3 cc4 cc5 cc6 cc7 cc8 cc9
        replace hB := nextB hB b
        replace hm := hm.below b
        replace ff1 := ff1.below b
        replace kf1 := kf1.below b
        replace ff2 := ff2.below b
        replace kf2 := kf2.below b
        replace ff3 := ff3.below b
        replace kf3 := kf3.below b
        replace fs := fs.below b
        replace ks := ks.below b
        replace ft := ft.below b
        clear b
        refine (HC.out.u ff2 ff3).mono ?_
        rintro e w11 ⟨v_, rfl, j_, b⟩
        replace hB := nextB hB b
        replace hm := hm.below b
        replace ff1 := ff1.below b
        replace kf1 := kf1.below b
        replace ff2 := ff2.below b
        replace kf2 := kf2.below b
        replace ff3 := ff3.below b
        replace kf3 := kf3.below b
        replace fs := fs.below b
        replace ks := ks.below b
        replace ft := ft.below b
        replace kt := kt.below b
        clear b
        have fu := j_
        obtain ⟨aou, qu, capu, aou2, qu2, capu2, rfl, -, -, -⟩ := fu.slice
        clear j_
        obtain ⟨b, ku⟩ := prof w11 (.slice aou qu capu) (.slice aou2 qu2 capu2)
        obtain ⟨Ru, hRu⟩ : ∃ R, R = w11.heap.size := ⟨_, rfl⟩
        have hleu : w.heap.size ≤ Ru := by rw [hRu]; exact hB.size
        have cc0 := (kf1.below b).cell0
        have cc1 := (kf1.below b).cell1
        have cc2 := (kf2.below b).cell0
        have cc3 := (kf2.below b).cell1
        have cc4 := (kf3.below b).cell0
        have cc5 := (kf3.below b).cell1
        have cc6 := (ks.below b).cell0
        have cc7 := (ks.below b).cell1
        have cc8 := (kt.below b).cell0
        have cc9 := (kt.below b).cell1
        have cc10 := ku.cell0
        have cc11 := ku.cell1
        go_wp2_with fail
        obtain ⟨w12, hw⟩ : ∃ w_ : World, w_ = (w11.alloc (.cells #[.slice aou qu capu, .slice aou2 qu2 capu2] 50)) := ⟨_, rfl⟩
        rw [← hw] at b ku ⊢
        rw [← hRu] at ku ⊢
        clear hw hRu cc0 cc1 cc2 cc3 cc4 cc5 cc6 cc7 cc8 cc9 cc10 cc11
        replace hB := nextB hB b
        replace hm := hm.below b
        replace ff1 := ff1.below b
        replace kf1 := kf1.below b
        replace ff2 := ff2.below b
        replace kf2 := kf2.below b
        replace ff3 := ff3.below b
        replace kf3 := kf3.below b
        replace fs := fs.below b
        replace ks := ks.below b
        replace ft := ft.below b
        replace kt := kt.below b
        replace fu := fu.below b
        clear b
        refine (HC.out.v ff1 fu).mono ?_
        rintro e w13 ⟨v_, rfl, j_, b⟩
        replace hB := nextB hB b
        replace hm := hm.below b
        replace ff1 := ff1.below b
        replace kf1 := kf1.below b
        replace ff2 := ff2.below b
        replace kf2 := kf2.below b
        replace ff3 := ff3.below b
        replace kf3 := kf3.below b
        replace fs := fs.below b
        replace ks := ks.below b
        replace ft := ft.below b
        replace kt := kt.below b
        replace fu := fu.below b
        replace ku := ku.below b
        clear b
        have fv := j_
        obtain ⟨aov, qv, capv, aov2, qv2, capv2, rfl, -, -, -⟩ := fv.slice
        clear j_
        obtain ⟨b, kv⟩ := prof w13 (.slice aov qv capv) (.slice aov2 qv2 capv2)
        obtain ⟨Rv, hRv⟩ : ∃ R, R = w13.heap.size := ⟨_, rfl⟩
        have hlev : w.heap.size ≤ Rv := by rw [hRv]; exact hB.size
        have cc0 := (kf1.below b).cell0
        have cc1 := (kf1.below b).cell1
        have cc2 := (kf2.below b).cell0
        have cc3 := (kf2.below b).cell1
        have cc4 := (kf3.below b).cell0
        have cc5 := (kf3.below b).cell1
        have cc6 := (ks.below b).cell0
        have cc7 := (ks.below b).cell1
        have cc8 := (kt.below b).cell0
        have cc9 := (kt.below b).cell1
        have cc10 := (ku.below b).cell0
        have cc11 := (ku.below b).cell1
        have cc12 := kv.cell0
        have cc13 := kv.cell1
        go_wp2_with fail
        obtain ⟨w14, hw⟩ : ∃ w_ : World, w_ = (w13.alloc (.cells #[.slice aov qv capv, .slice aov2 qv2 capv2] 50)) := ⟨_, rfl⟩
        rw [← hw] at b kv ⊢
        rw [← hRv] at kv ⊢
        clear hw hRv cc0 cc1 cc2 cc3 cc4 cc5 cc6 cc7 cc8 cc9 cc10 cc11 cc12 cc13
        replace hB := nextB hB b
        replace hm := hm.below b
        replace ff1 := ff1.below b
        replace kf1 := kf1.below b
        replace ff2 := ff2.below b
        replace kf2 := kf2.below b
        replace ff3 := ff3.below b
        replace kf3 := kf3.below b
        replace fs := fs.below b
        replace ks := ks.below b
        replace ft := ft.below b
        replace kt := kt.below b
        replace fu := fu.below b
        replace ku := ku.below b
        replace fv := fv.below b
        clear b
        refine (HC.out.p ff1 fu).mono ?_
        rintro e w15 ⟨v_, rfl, j_, b⟩
        replace hB := nextB hB b
        replace hm := hm.below b
        replace ff1 := ff1.below b
        replace kf1 := kf1.below b
        replace ff2 := ff2.below b
        replace kf2 := kf2.below b
        replace ff3 := ff3.below b
        replace kf3 := kf3.below b
        replace fs := fs.below b
        replace ks := ks.below b
        replace ft := ft.below b
        replace kt := kt.below b
        replace fu := fu.below b
        replace ku := ku.below b
        replace fv := fv.below b
        replace kv := kv.below b
        clear b
        have fp := j_
        obtain ⟨aop, qp, capp, aop2, qp2, capp2, rfl, -, -, -⟩ := fp.slice
        clear j_
        obtain ⟨b, kp⟩ := prof w15 (.slice aop qp capp) (.slice aop2 qp2 capp2)
        obtain ⟨Rp, hRp⟩ : ∃ R, R = w15.heap.size := ⟨_, rfl⟩
        have hlep : w.heap.size ≤ Rp := by rw [hRp]; exact hB.size
        have cc0 := (kf1.below b).cell0
        have cc1 := (kf1.below b).cell1
        have cc2 := (kf2.below b).cell0
        have cc3 := (kf2.below b).cell1
        have cc4 := (kf3.below b).cell0
        have cc5 := (kf3.below b).cell1
        have cc6 := (ks.below b).cell0
        have cc7 := (ks.below b).cell1
        have cc8 := (kt.below b).cell0
        have cc9 := (kt.below b).cell1
        have cc10 := (ku.below b).cell0
        have cc11 := (ku.below b).cell1
        have cc12 := (kv.below b).cell0
        have cc13 := (kv.below b).cell1
        have cc14 := kp.cell0
        have cc15 := kp.cell1
        go_wp2_with fail
        obtain ⟨w16, hw⟩ : ∃ w_ : World, w_ = (w15.alloc (.cells #[.slice aop qp capp, .slice aop2 qp2 capp2] 50)) := ⟨_, rfl⟩
        rw [← hw] at b kp ⊢
        rw [← hRp] at kp ⊢
        clear hw hRp cc0 cc1 cc2 cc3 cc4 cc5 cc6 cc7 cc8 cc9 cc10 cc11 cc12 cc13 cc14 cc15
        replace hB := nextB hB b
        replace hm := hm.below b
        replace ff1 := ff1.below b
        replace kf1 := kf1.below b
        replace ff2 := ff2.below b
        replace kf2 := kf2.below b
        replace ff3 := ff3.below b
        replace kf3 := kf3.below b
        replace fs := fs.below b
        replace ks := ks.below b
        replace ft := ft.below b
        replace kt := kt.below b
        replace fu := fu.below b
        replace ku := ku.below b
        replace fv := fv.below b
        replace kv := kv.below b
        replace fp := fp.below b
        clear b
        refine (HC.out.q ff1 ff2).mono ?_
        rintro e w17 ⟨v_, rfl, j_, b⟩
        replace hB := nextB hB b
        replace hm := hm.below b
        replace ff1 := ff1.below b
        replace kf1 := kf1.below b
        replace ff2 := ff2.below b
        replace kf2 := kf2.below b
        replace ff3 := ff3.below b
        replace kf3 := kf3.below b
        replace fs := fs.below b
        replace ks := ks.below b
        replace ft := ft.below b
        replace kt := kt.below b
        replace fu := fu.below b
        replace ku := ku.below b
        replace fv := fv.below b
        replace kv := kv.below b
        replace fp := fp.below b
        replace kp := kp.below b
        clear b
        have fq := j_
        obtain ⟨aoq, qq, capq, aoq2, qq2, capq2, rfl, -, -, -⟩ := fq.slice
        clear j_
        obtain ⟨b, kq⟩ := prof w17 (.slice aoq qq capq) (.slice aoq2 qq2 capq2)
        obtain ⟨Rq, hRq⟩ : ∃ R, R = w17.heap.size := ⟨_, rfl⟩
        have hleq : w.heap.size ≤ Rq := by rw [hRq]; exact hB.size
        have cc0 := (kf1.below b).cell0
        have cc1 := (kf1.below b).cell1
        have cc2 := (kf2.below b).cell0
        have cc3 := (kf2.below b).cell1
        have cc4 := (kf3.below b).cell0
        have cc5 := (kf3.below b).cell1
        have cc6 := (ks.below b).cell0
        have cc7 := (ks.below b).cell1
        have cc8 := (kt.below b).cell0
        have cc9 := (kt.below b).cell1
        have cc10 := (ku.below b).cell0
        have cc11 := (ku.below b).cell1
        have cc12 := (kv.below b).cell0
        have cc13 := (kv.below b).cell1
        have cc14 := (kp.below b).cell0
        have cc15 := (kp.below b).cell1
        have cc16 := kq.cell0
        have cc17 := kq.cell1
        go_wp2_with fail
        obtain ⟨w18, hw⟩ : ∃ w_ : World, w_ = (w17.alloc (.cells #[.slice aoq qq capq, .slice aoq2 qq2 capq2] 50)) := ⟨_, rfl⟩
        rw [← hw] at b kq ⊢
        rw [← hRq] at kq ⊢
        clear hw hRq cc0 cc1 cc2 cc3 cc4 cc5 cc6 cc7 cc8 cc9 cc10 cc11 cc12 cc13 cc14 cc15 cc16 cc17
        replace hB := nextB hB b
        replace hm := hm.below b
        replace ff1 := ff1.below b
        replace kf1 := kf1.below b
        replace ff2 := ff2.below b
        replace kf2 := kf2.below b
        replace ff3 := ff3.below b
        replace kf3 := kf3.below b
        replace fs := fs.below b
        replace ks := ks.below b
        replace ft := ft.below b
        replace kt := kt.below b
        replace fu := fu.below b
        replace ku := ku.below b
        replace fv := fv.below b
        replace kv := kv.below b
        replace fp := fp.below b
        replace kp := kp.below b
        replace fq := fq.below b
        clear b
        refine (HC.out.r ff1 ff3).mono ?_
        rintro e w19 ⟨v_, rfl, j_, b⟩
        replace hB := nextB hB b
        replace hm := hm.below b
        replace ff1 := ff1.below b
        replace kf1 := kf1.below b
        replace ff2 := ff2.below b
        replace kf2 := kf2.below b
        replace ff3 := ff3.below b
        replace kf3 := kf3.below b
        replace fs := fs.below b
        replace ks := ks.below b
        replace ft := ft.below b
        replace kt := kt.below b
        replace fu := fu.below b
        replace ku := ku.below b
        replace fv := fv.below b
        replace kv := kv.below b
        replace fp := fp.below b
        replace kp := kp.below b
        replace fq := fq.below b
        replace kq := kq.below b
        clear b
        have fr := j_
        obtain ⟨aor, qr, capr, aor2, qr2, capr2, rfl, -, -, -⟩ := fr.slice
        clear j_
        obtain ⟨b, kr⟩ := prof w19 (.slice aor qr capr) (.slice aor2 qr2 capr2)
        obtain ⟨Rr, hRr⟩ : ∃ R, R = w19.heap.size := ⟨_, rfl⟩
        have hler : w.heap.size ≤ Rr := by rw [hRr]; exact hB.size
        have cc0 := (kf1.below b).cell0
        have cc1 := (kf1.below b).cell1
        have cc2 := (kf2.below b).cell0
        have cc3 := (kf2.below b).cell1
        have cc4 := (kf3.below b).cell0
        have cc5 := (kf3.below b).cell1
        have cc6 := (ks.below b).cell0
        have cc7 := (ks.below b).cell1
        have cc8 := (kt.below b).cell0
        have cc9 := (kt.below b).cell1
        have cc10 := (ku.below b).cell0
        have cc11 := (ku.below b).cell1
        have cc12 := (kv.below b).cell0
        have cc13 := (kv.below b).cell1
        have cc14 := (kp.below b).cell0
        have cc15 := (kp.below b).cell1
        have cc16 := (kq.below b).cell0
        have cc17 := (kq.below b).cell1
        have cc18 := kr.cell0
        have cc19 := kr.cell1
        go_wp2_with fail
        obtain ⟨w20, hw⟩ : ∃ w_ : World, w_ = (w19.alloc (.cells #[.slice aor qr capr, .slice aor2 qr2 capr2] 50)) := ⟨_, rfl⟩
        rw [← hw] at b kr ⊢
        rw [← hRr] at kr ⊢
        clear hw hRr cc0 cc1 cc2 cc3 cc4 cc5 cc6 cc7 cc8 cc9 cc10 cc11 cc12 cc13 cc14 cc15 cc16 cc17 cc18 cc19
        replace hB := nextB hB b
        replace hm := hm.below b
        replace ff1 := ff1.below b
        replace kf1 := kf1.below b
        replace ff2 := ff2.below b
        replace kf2 := kf2.below b
        replace ff3 := ff3.below b
        replace kf3 := kf3.below b
        replace fs := fs.below b
        replace ks := ks.below b
        replace ft := ft.below b
        replace kt := kt.below b
        replace fu := fu.below b
        replace ku := ku.below b
        replace fv := fv.below b
        replace kv := kv.below b
        replace fp := fp.below b
        replace kp := kp.below b
        replace fq := fq.below b
        replace kq := kq.below b
        replace fr := fr.below b
        clear b
        refine (HC.out.w fq fr).mono ?_
        rintro e w21 ⟨v_, rfl, j_, b⟩
        replace hB := nextB hB b
        replace hm := hm.below b
        replace ff1 := ff1.below b
        replace kf1 := kf1.below b
        replace ff2 := ff2.below b
        replace kf2 := kf2.below b
        replace ff3 := ff3.below b
        replace kf3 := kf3.below b
        replace fs := fs.below b
        replace ks := ks.below b
        replace ft := ft.below b
        replace kt := kt.below b
        replace fu := fu.below b
        replace ku := ku.below b
        replace fv := fv.below b
        replace kv := kv.below b
        replace fp := fp.below b
        replace kp := kp.below b
        replace fq := fq.below b
        replace kq := kq.below b
        replace fr := fr.below b
        replace kr := kr.below b
        clear b
        have fw := j_
        obtain ⟨aow, qw, capw, aow2, qw2, capw2, rfl, -, -, -⟩ := fw.slice
        clear j_
        obtain ⟨b, kw⟩ := prof w21 (.slice aow qw capw) (.slice aow2 qw2 capw2)
        obtain ⟨Rw, hRw⟩ : ∃ R, R = w21.heap.size := ⟨_, rfl⟩
        have hlew : w.heap.size ≤ Rw := by rw [hRw]; exact hB.size
        have cc0 := (kf1.below b).cell0
        have cc1 := (kf1.below b).cell1
        have cc2 := (kf2.below b).cell0
        have cc3 := (kf2.below b).cell1
        have cc4 := (kf3.below b).cell0
        have cc5 := (kf3.below b).cell1
        have cc6 := (ks.below b).cell0
        have cc7 := (ks.below b).cell1
        have cc8 := (kt.below b).cell0
        have cc9 := (kt.below b).cell1
        have cc10 := (ku.below b).cell0
        have cc11 := (ku.below b).cell1
        have cc12 := (kv.below b).cell0
        have cc13 := (kv.below b).cell1
        have cc14 := (kp.below b).cell0
        have cc15 := (kp.below b).cell1
        have cc16 := (kq.below b).cell0
        have cc17 := (kq.below b).cell1
        have cc18 := (kr.below b).cell0
        have cc19 := (kr.below b).cell1
        have cc20 := kw.cell0
        have cc21 := kw.cell1
        go_wp2_with fail
        obtain ⟨w22, hw⟩ : ∃ w_ : World, w_ = (w21.alloc (.cells #[.slice aow qw capw, .slice aow2 qw2 capw2] 50)) := ⟨_, rfl⟩
        rw [← hw] at b kw ⊢
        rw [← hRw] at kw ⊢
        clear hw hRw cc0 cc1 cc2 cc3 cc4 cc5 cc6 cc7 cc8 cc9 cc10 cc11 cc12 cc13 cc14 cc15 cc16 cc17 cc18 cc19 cc20 cc21
        replace hB := nextB hB b
        replace hm := hm.below b
        replace ff1 := ff1.below b
        replace kf1 := kf1.below b
        replace ff2 := ff2.below b
        replace kf2 := kf2.below b
        replace ff3 := ff3.below b
        replace kf3 := kf3.below b
        replace fs := fs.below b
        replace ks := ks.below b
        replace ft := ft.below b
        replace kt := kt.below b
        replace fu := fu.below b
        replace ku := ku.below b
        replace fv := fv.below b
        replace kv := kv.below b
        replace fp := fp.below b
        replace kp := kp.below b
        replace fq := fq.below b
        replace kq := kq.below b
        replace fr := fr.below b
        replace kr := kr.below b
        replace fw := fw.below b
        clear b
        refine (HC.out.str ft).mono ?_
        rintro e w23 ⟨rfl, b⟩
        replace hB := nextB hB b
        replace hm := hm.below b
        replace ff1 := ff1.below b
        replace kf1 := kf1.below b
        replace ff2 := ff2.below b
        replace kf2 := kf2.below b
        replace ff3 := ff3.below b
        replace kf3 := kf3.below b
        replace fs := fs.below b
        replace ks := ks.below b
        replace ft := ft.below b
        replace kt := kt.below b
        replace fu := fu.below b
        replace ku := ku.below b
        replace fv := fv.below b
        replace kv := kv.below b
        replace fp := fp.below b
        replace kp := kp.below b
        replace fq := fq.below b
        replace kq := kq.below b
        replace fr := fr.below b
        replace kr := kr.below b
        replace fw := fw.below b
        replace kw := kw.below b
        clear b
        have cc0 := kf1.cell0
        have cc1 := kf1.cell1
        have cc2 := kf2.cell0
        have cc3 := kf2.cell1
        have cc4 := kf3.cell0
        have cc5 := kf3.cell1
        have cc6 := ks.cell0
        have cc7 := ks.cell1
        have cc8 := kt.cell0
        have cc9 := kt.cell1
        have cc10 := ku.cell0
        have cc11 := ku.cell1
        have cc12 := kv.cell0
        have cc13 := kv.cell1
        have cc14 := kp.cell0
        have cc15 := kp.cell1
        have cc16 := kq.cell0
        have cc17 := kq.cell1
        have cc18 := kr.cell0
        have cc19 := kr.cell1
        have cc20 := kw.cell0
        have cc21 := kw.cell1
        go_wp2_with fail
        clear cc0 cc1 cc2 cc3 cc4 cc5 cc6 cc7 cc8 cc9 cc10 cc11 cc12 cc13 cc14 cc15 cc16 cc17 cc18 cc19 cc20 cc21
        refine (HC.out.pf hm).mono ?_
        rintro e w24 ⟨v_, rfl, j_, b⟩
        replace hB := nextB hB b
        replace hm := hm.below b
        replace ff1 := ff1.below b
        replace kf1 := kf1.below b
        replace ff2 := ff2.below b
        replace kf2 := kf2.below b
        replace ff3 := ff3.below b
        replace kf3 := kf3.below b
        replace fs := fs.below b
        replace ks := ks.below b
        replace ft := ft.below b
        replace kt := kt.below b
        replace fu := fu.below b
        replace ku := ku.below b
        replace fv := fv.below b
        replace kv := kv.below b
        replace fp := fp.below b
        replace kp := kp.below b
        replace fq := fq.below b
        replace kq := kq.below b
        replace fr := fr.below b
        replace kr := kr.below b
        replace fw := fw.below b
        replace kw := kw.below b
        clear b
        clear hm
        have fz := j_
        obtain ⟨aoz, qz, capz, aoz2, qz2, capz2, rfl, -, -, -⟩ := fz.slice
        clear j_
        obtain ⟨b, kz⟩ := prof w24 (.slice aoz qz capz) (.slice aoz2 qz2 capz2)
        obtain ⟨Rz, hRz⟩ : ∃ R, R = w24.heap.size := ⟨_, rfl⟩
        have cc0 := (kf1.below b).cell0
        have cc1 := (kf1.below b).cell1
        have cc2 := (kf2.below b).cell0
        have cc3 := (kf2.below b).cell1
        have cc4 := (kf3.below b).cell0
        have cc5 := (kf3.below b).cell1
        have cc6 := (ks.below b).cell0
        have cc7 := (ks.below b).cell1
        have cc8 := (kt.below b).cell0
        have cc9 := (kt.below b).cell1
        have cc10 := (ku.below b).cell0
        have cc11 := (ku.below b).cell1
        have cc12 := (kv.below b).cell0
        have cc13 := (kv.below b).cell1
        have cc14 := (kp.below b).cell0
        have cc15 := (kp.below b).cell1
        have cc16 := (kq.below b).cell0
        have cc17 := (kq.below b).cell1
        have cc18 := (kr.below b).cell0
        have cc19 := (kr.below b).cell1
        have cc20 := (kw.below b).cell0
        have cc21 := (kw.below b).cell1
        have cc22 := kz.cell0
        have cc23 := kz.cell1
        go_wp2_with fail
        obtain ⟨w25, hw⟩ : ∃ w_ : World, w_ = (w24.alloc (.cells #[.slice aoz qz capz, .slice aoz2 qz2 capz2] 50)) := ⟨_, rfl⟩
        have hz : (w24.alloc (.cells #[.slice aoz qz capz, .slice aoz2 qz2 capz2] 50)).heap.size = w24.heap.size + 1 := by simp
        rw [← hw] at b kz hz ⊢
        rw [← hRz] at kz hz ⊢
        clear hw hRz cc0 cc1 cc2 cc3 cc4 cc5 cc6 cc7 cc8 cc9 cc10 cc11 cc12 cc13 cc14 cc15 cc16 cc17 cc18 cc19 cc20 cc21 cc22 cc23
        replace hB := nextB hB b
        replace ff1 := ff1.below b
        replace kf1 := kf1.below b
        replace ff2 := ff2.below b
        replace kf2 := kf2.below b
        replace ff3 := ff3.below b
        replace kf3 := kf3.below b
        replace fs := fs.below b
        replace ks := ks.below b
        replace ft := ft.below b
        replace kt := kt.below b
        replace fu := fu.below b
        replace ku := ku.below b
        replace fv := fv.below b
        replace kv := kv.below b
        replace fp := fp.below b
        replace kp := kp.below b
        replace fq := fq.below b
        replace kq := kq.below b
        replace fr := fr.below b
        replace kr := kr.below b
        replace fw := fw.below b
        replace kw := kw.below b
        replace fz := fz.below b
        clear b
        have cc0 := kf1.cell0
        have cc1 := kf1.cell1
        have cc2 := kf2.cell0
        have cc3 := kf2.cell1
        have cc4 := kf3.cell0
        have cc5 := kf3.cell1
        have cc6 := ks.cell0
        have cc7 := ks.cell1
        have cc8 := kt.cell0
        have cc9 := kt.cell1
        have cc10 := ku.cell0
        have cc11 := ku.cell1
        have cc12 := kv.cell0
        have cc13 := kv.cell1
        have cc14 := kp.cell0
        have cc15 := kp.cell1
        have cc16 := kq.cell0
        have cc17 := kq.cell1
        have cc18 := kr.cell0
        have cc19 := kr.cell1
        have cc20 := kw.cell0
        have cc21 := kw.cell1
        have cc22 := kz.cell0
        have cc23 := kz.cell1
        go_wp2_with fail
        clear cc0 cc1 cc2 cc3 cc4 cc5 cc6 cc7 cc8 cc9 cc10 cc11 cc12 cc13 cc14 cc15 cc16 cc17 cc18 cc19 cc20 cc21 cc22 cc23
        obtain ⟨w26, hw⟩ : ∃ w_ : World, w_ = w25.alloc (.cells #[.int .i64 0, .int .i64 0, .int .i64 0, .int .i64 0, .int .i64 0, .int .i64 0, .int .i64 0, .int .i64 0, .int .i64 0] 26) := ⟨_, rfl⟩
        have b := below_alloc w25 (.cells #[.int .i64 0, .int .i64 0, .int .i64 0, .int .i64 0, .int .i64 0, .int .i64 0, .int .i64 0, .int .i64 0, .int .i64 0] 26)
        have HCE := Lib.hid (fun t (ht : t < 9) => errs_cell w25 9 ht)
        rw [show (Array.replicate 9 (Value.int .i64 0)) = #[.int .i64 0, .int .i64 0, .int .i64 0, .int .i64 0, .int .i64 0, .int .i64 0, .int .i64 0, .int .i64 0, .int .i64 0] from rfl] at HCE
        rw [← hw] at b HCE ⊢
        rw [hz] at HCE
        clear hw hz
        replace hB := nextB hB b
        replace ff1 := ff1.below b
        replace kf1 := kf1.below b
        replace ff2 := ff2.below b
        replace kf2 := kf2.below b
        replace ff3 := ff3.below b
        replace kf3 := kf3.below b
        replace fs := fs.below b
        replace ks := ks.below b
        replace ft := ft.below b
        replace kt := kt.below b
        replace fu := fu.below b
        replace ku := ku.below b
        replace fv := fv.below b
        replace kv := kv.below b
        replace fp := fp.below b
        replace kp := kp.below b
        replace fq := fq.below b
        replace kq := kq.below b
        replace fr := fr.below b
        replace kr := kr.below b
        replace fw := fw.below b
        replace kw := kw.below b
        replace fz := fz.below b
        replace kz := kz.below b
        clear b
        go_loop [42, 145] (fun _ i => ∃ t : Nat, t ≤ 9 ∧ i = .int .i64 t) (fun _ i => 9 - (intOf i).toNat)
        case atStart => exact ⟨0, Nat.zero_le _, rfl⟩
        case round =>
          obtain ⟨t, ht, rfl⟩ := hrel
          by_cases hlt : t < 9
          · have hce := HCE.out t hlt
            go_wp2
            go_round
            case rel => exact ⟨t + 1, by omega, by go_num⟩
            case measure => simp [intOf]; omega
          · obtain rfl : t = 9 := by omega
            clear HCE hlt ht
            have cc0 := kf1.cell0
            have cc1 := kf1.cell1
            have cc2 := kf2.cell0
            have cc3 := kf2.cell1
            have cc4 := kf3.cell0
            have cc5 := kf3.cell1
            have cc6 := ks.cell0
            have cc7 := ks.cell1
            have cc8 := kt.cell0
            have cc9 := kt.cell1
            have cc10 := ku.cell0
            have cc11 := ku.cell1
            have cc12 := kv.cell0
            have cc13 := kv.cell1
            have cc14 := kp.cell0
            have cc15 := kp.cell1
            have cc16 := kq.cell0
            have cc17 := kq.cell1
            have cc18 := kr.cell0
            have cc19 := kr.cell1
            have cc20 := kw.cell0
            have cc21 := kw.cell1
            have cc22 := kz.cell0
            have cc23 := kz.cell1
            go_wp2_with fail
            clear cc0 cc1 cc2 cc3 cc4 cc5 cc6 cc7 cc8 cc9 cc10 cc11 cc12 cc13 cc14 cc15 cc16 cc17 cc18 cc19 cc20 cc21 cc22 cc23
            refine (HC.out.ctv ft fv).mono ?_
            rintro e w27 ⟨rfl, b⟩
            replace hB := nextB hB b
            replace ff1 := ff1.below b
            replace kf1 := kf1.below b
            replace ff2 := ff2.below b
            replace kf2 := kf2.below b
            replace ff3 := ff3.below b
            replace kf3 := kf3.below b
            replace fs := fs.below b
            replace ks := ks.below b
            replace ft := ft.below b
            replace kt := kt.below b
            replace fu := fu.below b
            replace ku := ku.below b
            replace fv := fv.below b
            replace kv := kv.below b
            replace fp := fp.below b
            replace kp := kp.below b
            replace fq := fq.below b
            replace kq := kq.below b
            replace fr := fr.below b
            replace kr := kr.below b
            replace fw := fw.below b
            replace kw := kw.below b
            replace fz := fz.below b
            replace kz := kz.below b
            clear b
            have cc0 := kf1.cell0
            have cc1 := kf1.cell1
            have cc2 := kf2.cell0
            have cc3 := kf2.cell1
            have cc4 := kf3.cell0
            have cc5 := kf3.cell1
            have cc6 := ks.cell0
            have cc7 := ks.cell1
            have cc8 := kt.cell0
            have cc9 := kt.cell1
            have cc10 := ku.cell0
            have cc11 := ku.cell1
            have cc12 := kv.cell0
            have cc13 := kv.cell1
            have cc14 := kp.cell0
            have cc15 := kp.cell1
            have cc16 := kq.cell0
            have cc17 := kq.cell1
            have cc18 := kr.cell0
            have cc19 := kr.cell1
            have cc20 := kw.cell0
            have cc21 := kw.cell1
            have cc22 := kz.cell0
            have cc23 := kz.cell1
            go_wp2_with fail
            clear cc0 cc1 cc2 cc3 cc4 cc5 cc6 cc7 cc8 cc9 cc10 cc11 cc12 cc13 cc14 cc15 cc16 cc17 cc18 cc19 cc20 cc21 cc22 cc23
            refine (HC.out.cpw fp fw).mono ?_
            rintro e w28 ⟨rfl, b⟩
            replace hB := nextB hB b
            replace ff1 := ff1.below b
            replace kf1 := kf1.below b
            replace ff2 := ff2.below b
            replace kf2 := kf2.below b
            replace ff3 := ff3.below b
            replace kf3 := kf3.below b
            replace fs := fs.below b
            replace ks := ks.below b
            replace ft := ft.below b
            replace kt := kt.below b
            replace fu := fu.below b
            replace ku := ku.below b
            replace fv := fv.below b
            replace kv := kv.below b
            replace fp := fp.below b
            replace kp := kp.below b
            replace fq := fq.below b
            replace kq := kq.below b
            replace fr := fr.below b
            replace kr := kr.below b
            replace fw := fw.below b
            replace kw := kw.below b
            replace fz := fz.below b
            replace kz := kz.below b
            clear b
            have cc0 := kf1.cell0
            have cc1 := kf1.cell1
            have cc2 := kf2.cell0
            have cc3 := kf2.cell1
            have cc4 := kf3.cell0
            have cc5 := kf3.cell1
            have cc6 := ks.cell0
            have cc7 := ks.cell1
            have cc8 := kt.cell0
            have cc9 := kt.cell1
            have cc10 := ku.cell0
            have cc11 := ku.cell1
            have cc12 := kv.cell0
            have cc13 := kv.cell1
            have cc14 := kp.cell0
            have cc15 := kp.cell1
            have cc16 := kq.cell0
            have cc17 := kq.cell1
            have cc18 := kr.cell0
            have cc19 := kr.cell1
            have cc20 := kw.cell0
            have cc21 := kw.cell1
            have cc22 := kz.cell0
            have cc23 := kz.cell1
            go_wp2_with fail
            clear cc0 cc1 cc2 cc3 cc4 cc5 cc6 cc7 cc8 cc9 cc10 cc11 cc12 cc13 cc14 cc15 cc16 cc17 cc18 cc19 cc20 cc21 cc22 cc23
            refine (HC.out.ctt fz ft).mono ?_
            rintro e w29 ⟨rfl, b⟩
            replace hB := nextB hB b
            replace ff1 := ff1.below b
            replace kf1 := kf1.below b
            replace ff2 := ff2.below b
            replace kf2 := kf2.below b
            replace ff3 := ff3.below b
            replace kf3 := kf3.below b
            replace fs := fs.below b
            replace ks := ks.below b
            replace ft := ft.below b
            replace kt := kt.below b
            replace fu := fu.below b
            replace ku := ku.below b
            replace fv := fv.below b
            replace kv := kv.below b
            replace fp := fp.below b
            replace kp := kp.below b
            replace fq := fq.below b
            replace kq := kq.below b
            replace fr := fr.below b
            replace kr := kr.below b
            replace fw := fw.below b
            replace kw := kw.below b
            replace fz := fz.below b
            replace kz := kz.below b
            clear b
            clear fp fw fv fz fr fu kp kw kv kz kr ku ft kt ff3 kf3
            by_cases hp0 : p2 = 0
            · subst hp0
              have cc0 := kf1.cell0
              have cc1 := kf1.cell1
              have cc2 := kf2.cell0
              have cc3 := kf2.cell1
              have cc4 := ks.cell0
              have cc5 := ks.cell1
              have cc6 := kq.cell0
              have cc7 := kq.cell1
              go_wp2_with fail
              clear cc0 cc1 cc2 cc3 cc4 cc5 cc6 cc7
              refine (FDiv_zero fq ff2).mono ?_
              rintro e w30 ⟨v_, rfl, j_, b⟩
              rw [if_neg (by omega), if_neg (by omega)] at j_
              replace hB := nextB hB b
              replace ff1 := ff1.below b
              replace kf1 := kf1.below b
              replace ff2 := ff2.below b
              replace kf2 := kf2.below b
              replace fs := fs.below b
              replace ks := ks.below b
              replace fq := fq.below b
              replace kq := kq.below b
              clear b
              have fx := j_
              obtain ⟨aox, qx, capx, aox2, qx2, capx2, rfl, -, -, -⟩ := fx.slice
              clear j_
              obtain ⟨b, kx⟩ := prof w30 (.slice aox qx capx) (.slice aox2 qx2 capx2)
              obtain ⟨Rx, hRx⟩ : ∃ R, R = w30.heap.size := ⟨_, rfl⟩
              have hlex : w.heap.size ≤ Rx := by rw [hRx]; exact hB.size
              have cc0 := (kf1.below b).cell0
              have cc1 := (kf1.below b).cell1
              have cc2 := (kf2.below b).cell0
              have cc3 := (kf2.below b).cell1
              have cc4 := (ks.below b).cell0
              have cc5 := (ks.below b).cell1
              have cc6 := (kq.below b).cell0
              have cc7 := (kq.below b).cell1
              have cc8 := kx.cell0
              have cc9 := kx.cell1
              go_wp2_with fail
              obtain ⟨w31, hw⟩ : ∃ w_ : World, w_ = (w30.alloc (.cells #[.slice aox qx capx, .slice aox2 qx2 capx2] 50)) := ⟨_, rfl⟩
              rw [← hw] at b kx ⊢
              rw [← hRx] at kx ⊢
              clear hw hRx cc0 cc1 cc2 cc3 cc4 cc5 cc6 cc7 cc8 cc9
              replace hB := nextB hB b
              replace ff1 := ff1.below b
              replace kf1 := kf1.below b
              replace ff2 := ff2.below b
              replace kf2 := kf2.below b
              replace fs := fs.below b
              replace ks := ks.below b
              replace fq := fq.below b
              replace kq := kq.below b
              replace fx := fx.below b
              clear b
              refine (FNum_any ff2).mono ?_
              rintro e w32 ⟨v1, rfl, i1, b⟩
              replace hB := nextB hB b
              replace ff1 := ff1.below b
              replace kf1 := kf1.below b
              replace ff2 := ff2.below b
              replace kf2 := kf2.below b
              replace fs := fs.below b
              replace ks := ks.below b
              replace fq := fq.below b
              replace kq := kq.below b
              replace fx := fx.below b
              replace kx := kx.below b
              clear b
              have cc0 := kf1.cell0
              have cc1 := kf1.cell1
              have cc2 := kf2.cell0
              have cc3 := kf2.cell1
              have cc4 := ks.cell0
              have cc5 := ks.cell1
              have cc6 := kq.cell0
              have cc7 := kq.cell1
              have cc8 := kx.cell0
              have cc9 := kx.cell1
              go_wp2_with fail
              clear cc0 cc1 cc2 cc3 cc4 cc5 cc6 cc7 cc8 cc9
              refine (BitLen_any i1 16384 (by omega) (P2_pos _)).mono ?_
              rintro e w33 ⟨rfl, b⟩
              rw [show ((blen 0 : Nat) : Int) = 0 from by rw [blen_zero]; rfl]
              replace hB := nextB hB b
              replace ff1 := ff1.below b
              replace kf1 := kf1.below b
              replace ff2 := ff2.below b
              replace kf2 := kf2.below b
              replace fs := fs.below b
              replace ks := ks.below b
              replace fq := fq.below b
              replace kq := kq.below b
              replace fx := fx.below b
              replace kx := kx.below b
              replace i1 := i1.below b
              clear b
              have cc0 := kf1.cell0
              have cc1 := kf1.cell1
              have cc2 := kf2.cell0
              have cc3 := kf2.cell1
              have cc4 := ks.cell0
              have cc5 := ks.cell1
              have cc6 := kq.cell0
              have cc7 := kq.cell1
              have cc8 := kx.cell0
              have cc9 := kx.cell1
              go_wp2_with fail
              clear cc0 cc1 cc2 cc3 cc4 cc5 cc6 cc7 cc8 cc9
              refine (awake_any _).mono ?_
              rintro e w34 ⟨rfl, b⟩
              replace hB := nextB hB b
              replace ff1 := ff1.below b
              replace kf1 := kf1.below b
              replace ff2 := ff2.below b
              replace kf2 := kf2.below b
              replace fs := fs.below b
              replace ks := ks.below b
              replace fq := fq.below b
              replace kq := kq.below b
              replace fx := fx.below b
              replace kx := kx.below b
              replace i1 := i1.below b
              clear b
              go_wp2
              go_ret
              exact ⟨rfl, hB⟩
            · obtain ⟨Xn, Xd, Yn, Yd, HD_⟩ := fieldD HH1.out HH2.out HC.out.fs HC.out.fq (Nat.pos_of_ne_zero hp0)
              have HD := Lib.hid HD_
              have hbl : (((blen p2 : Nat) : Int) == 0) = false := by rw [beq_eq_false_iff_ne]; intro h; exact hp0 (blen_eq_zero (by omega))
              have HP2 := Lib.hid (lt_P2_mono HH2.out.2.2.1 (show 128 ≤ 16384 by omega))
              clear HD_ hp0
              have cc0 := kf1.cell0
              have cc1 := kf1.cell1
              have cc2 := kf2.cell0
              have cc3 := kf2.cell1
              have cc4 := ks.cell0
              have cc5 := ks.cell1
              have cc6 := kq.cell0
              have cc7 := kq.cell1
              go_wp2_with fail
              clear cc0 cc1 cc2 cc3 cc4 cc5 cc6 cc7
              refine (HD.out.x fq ff2).mono ?_
              rintro e w30 ⟨v_, rfl, j_, b⟩
              replace hB := nextB hB b
              replace ff1 := ff1.below b
              replace kf1 := kf1.below b
              replace ff2 := ff2.below b
              replace kf2 := kf2.below b
              replace fs := fs.below b
              replace ks := ks.below b
              replace fq := fq.below b
              replace kq := kq.below b
              clear b
              have fx := j_
              obtain ⟨aox, qx, capx, aox2, qx2, capx2, rfl, -, -, -⟩ := fx.slice
              clear j_
              obtain ⟨b, kx⟩ := prof w30 (.slice aox qx capx) (.slice aox2 qx2 capx2)
              obtain ⟨Rx, hRx⟩ : ∃ R, R = w30.heap.size := ⟨_, rfl⟩
              have hlex : w.heap.size ≤ Rx := by rw [hRx]; exact hB.size
              have cc0 := (kf1.below b).cell0
              have cc1 := (kf1.below b).cell1
              have cc2 := (kf2.below b).cell0
              have cc3 := (kf2.below b).cell1
              have cc4 := (ks.below b).cell0
              have cc5 := (ks.below b).cell1
              have cc6 := (kq.below b).cell0
              have cc7 := (kq.below b).cell1
              have cc8 := kx.cell0
              have cc9 := kx.cell1
              go_wp2_with fail
              obtain ⟨w31, hw⟩ : ∃ w_ : World, w_ = (w30.alloc (.cells #[.slice aox qx capx, .slice aox2 qx2 capx2] 50)) := ⟨_, rfl⟩
              rw [← hw] at b kx ⊢
              rw [← hRx] at kx ⊢
              clear hw hRx cc0 cc1 cc2 cc3 cc4 cc5 cc6 cc7 cc8 cc9
              replace hB := nextB hB b
              replace ff1 := ff1.below b
              replace kf1 := kf1.below b
              replace ff2 := ff2.below b
              replace kf2 := kf2.below b
              replace fs := fs.below b
              replace ks := ks.below b
              replace fq := fq.below b
              replace kq := kq.below b
              replace fx := fx.below b
              clear b
              refine (FNum_any ff2).mono ?_
              rintro e w32 ⟨v1, rfl, i1, b⟩
              replace hB := nextB hB b
              replace ff1 := ff1.below b
              replace kf1 := kf1.below b
              replace ff2 := ff2.below b
              replace kf2 := kf2.below b
              replace fs := fs.below b
              replace ks := ks.below b
              replace fq := fq.below b
              replace kq := kq.below b
              replace fx := fx.below b
              replace kx := kx.below b
              clear b
              have cc0 := kf1.cell0
              have cc1 := kf1.cell1
              have cc2 := kf2.cell0
              have cc3 := kf2.cell1
              have cc4 := ks.cell0
              have cc5 := ks.cell1
              have cc6 := kq.cell0
              have cc7 := kq.cell1
              have cc8 := kx.cell0
              have cc9 := kx.cell1
              go_wp2_with fail
              clear cc0 cc1 cc2 cc3 cc4 cc5 cc6 cc7 cc8 cc9
              refine (BitLen_any i1 16384 (by omega) HP2.out).mono ?_
              rintro e w33 ⟨rfl, b⟩
              replace hB := nextB hB b
              replace ff1 := ff1.below b
              replace kf1 := kf1.below b
              replace ff2 := ff2.below b
              replace kf2 := kf2.below b
              replace fs := fs.below b
              replace ks := ks.below b
              replace fq := fq.below b
              replace kq := kq.below b
              replace fx := fx.below b
              replace kx := kx.below b
              replace i1 := i1.below b
              clear b
              clear i1
              have cc0 := kf1.cell0
              have cc1 := kf1.cell1
              have cc2 := kf2.cell0
              have cc3 := kf2.cell1
              have cc4 := ks.cell0
              have cc5 := ks.cell1
              have cc6 := kq.cell0
              have cc7 := kq.cell1
              have cc8 := kx.cell0
              have cc9 := kx.cell1
              go_wp2_with fail
              clear cc0 cc1 cc2 cc3 cc4 cc5 cc6 cc7 cc8 cc9
              refine (HD.out.y fs ff2).mono ?_
              rintro e w34 ⟨v_, rfl, j_, b⟩
              replace hB := nextB hB b
              replace ff1 := ff1.below b
              replace kf1 := kf1.below b
              replace ff2 := ff2.below b
              replace kf2 := kf2.below b
              replace fs := fs.below b
              replace ks := ks.below b
              replace fq := fq.below b
              replace kq := kq.below b
              replace fx := fx.below b
              replace kx := kx.below b
              clear b
              have fy := j_
              obtain ⟨aoy, qy, capy, aoy2, qy2, capy2, rfl, -, -, -⟩ := fy.slice
              clear j_
              obtain ⟨b, ky⟩ := prof w34 (.slice aoy qy capy) (.slice aoy2 qy2 capy2)
              obtain ⟨Ry, hRy⟩ : ∃ R, R = w34.heap.size := ⟨_, rfl⟩
              have hley : w.heap.size ≤ Ry := by rw [hRy]; exact hB.size
              have cc0 := (kf1.below b).cell0
              have cc1 := (kf1.below b).cell1
              have cc2 := (kf2.below b).cell0
              have cc3 := (kf2.below b).cell1
              have cc4 := (ks.below b).cell0
              have cc5 := (ks.below b).cell1
              have cc6 := (kq.below b).cell0
              have cc7 := (kq.below b).cell1
              have cc8 := (kx.below b).cell0
              have cc9 := (kx.below b).cell1
              have cc10 := ky.cell0
              have cc11 := ky.cell1
              go_wp2_with fail
              obtain ⟨w35, hw⟩ : ∃ w_ : World, w_ = (w34.alloc (.cells #[.slice aoy qy capy, .slice aoy2 qy2 capy2] 50)) := ⟨_, rfl⟩
              rw [← hw] at b ky ⊢
              rw [← hRy] at ky ⊢
              clear hw hRy cc0 cc1 cc2 cc3 cc4 cc5 cc6 cc7 cc8 cc9 cc10 cc11
              replace hB := nextB hB b
              replace ff1 := ff1.below b
              replace kf1 := kf1.below b
              replace ff2 := ff2.below b
              replace kf2 := kf2.below b
              replace fs := fs.below b
              replace ks := ks.below b
              replace fq := fq.below b
              replace kq := kq.below b
              replace fx := fx.below b
              replace kx := kx.below b
              replace fy := fy.below b
              clear b
              refine (HD.out.cx fx ff1).mono ?_
              rintro e w36 ⟨rfl, b⟩
              replace hB := nextB hB b
              replace ff1 := ff1.below b
              replace kf1 := kf1.below b
              replace ff2 := ff2.below b
              replace kf2 := kf2.below b
              replace fs := fs.below b
              replace ks := ks.below b
              replace fq := fq.below b
              replace kq := kq.below b
              replace fx := fx.below b
              replace kx := kx.below b
              replace fy := fy.below b
              replace ky := ky.below b
              clear b
              have cc0 := kf1.cell0
              have cc1 := kf1.cell1
              have cc2 := kf2.cell0
              have cc3 := kf2.cell1
              have cc4 := ks.cell0
              have cc5 := ks.cell1
              have cc6 := kq.cell0
              have cc7 := kq.cell1
              have cc8 := kx.cell0
              have cc9 := kx.cell1
              have cc10 := ky.cell0
              have cc11 := ky.cell1
              go_wp2_with fail
              clear cc0 cc1 cc2 cc3 cc4 cc5 cc6 cc7 cc8 cc9 cc10 cc11
              refine (HD.out.cy fy ff1).mono ?_
              rintro e w37 ⟨rfl, b⟩
              replace hB := nextB hB b
              replace ff1 := ff1.below b
              replace kf1 := kf1.below b
              replace ff2 := ff2.below b
              replace kf2 := kf2.below b
              replace fs := fs.below b
              replace ks := ks.below b
              replace fq := fq.below b
              replace kq := kq.below b
              replace fx := fx.below b
              replace kx := kx.below b
              replace fy := fy.below b
              replace ky := ky.below b
              clear b
              have cc0 := kf1.cell0
              have cc1 := kf1.cell1
              have cc2 := kf2.cell0
              have cc3 := kf2.cell1
              have cc4 := ks.cell0
              have cc5 := ks.cell1
              have cc6 := kq.cell0
              have cc7 := kq.cell1
              have cc8 := kx.cell0
              have cc9 := kx.cell1
              have cc10 := ky.cell0
              have cc11 := ky.cell1
              go_wp2_with fail
              clear cc0 cc1 cc2 cc3 cc4 cc5 cc6 cc7 cc8 cc9 cc10 cc11
              refine (awake_any _).mono ?_
              rintro e w38 ⟨rfl, b⟩
              replace hB := nextB hB b
              replace ff1 := ff1.below b
              replace kf1 := kf1.below b
              replace ff2 := ff2.below b
              replace kf2 := kf2.below b
              replace fs := fs.below b
              replace ks := ks.below b
              replace fq := fq.below b
              replace kq := kq.below b
              replace fx := fx.below b
              replace kx := kx.below b
              replace fy := fy.below b
              replace ky := ky.below b
              clear b
              go_wp2
              go_ret
              exact ⟨rfl, hB⟩

end Go.Proofs.Ytppbhjhbaknidaa
