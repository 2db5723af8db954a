/-
  The contract of the reader's sign.
  The contract of the reader's binary: every line of the grammar. Conditions: texts of at most 65536 bytes; the variable of the range error holds an error or none.
-/
import Derived.Test.YtddnmocoaahlfaaGreatDoorPrim
import Derived.Laws.EntriesVeiled
import Derived.Deep.DeepCutAuto
import Derived.Deep.RegionWith
set_option linter.unusedVariables false
set_option linter.unusedSimpArgs false
namespace Go.Proofs.YtddnmocoaahlfaaGreatDoor
open Go.RowKit
def SignC (op : Nat) (f : Reads) : Prop := ∀ w R s at_, Par w R s at_ op → s.size ≤ 65536 → at_ ≤ s.size → ErrR w → Calls Tryz.prog 136 #[.pointer (some ⟨R, 0, none⟩)] w (Rd w R s op (f ((txt s).drop at_)))
def sgnR (k : Nat) (r : Option (Ex × List UInt8)) : Option (Ex × List UInt8) := match r with | none => none | some (x, t) => some (if k = 0 then x else .neg k x, t)
def isDash (c : UInt8) : Bool := c == 45
theorem dash_num (c : UInt8) : ((c.toNat : Int) == 45) = isDash c := by
  unfold isDash
  by_cases h : c = 45
  · subst h; rfl
  · have : c.toNat ≠ 45 := fun e => h (UInt8.toNat_inj.1 e)
    have h1 : ((c.toNat : Int) == 45) = false := by simp; omega
    rw [h1]; simp [h]
set_option maxHeartbeats 2000000 in
theorem sign_any {op : Nat} {f : Reads} (hf : PrimC op f) : SignC op (signE f) := by
  intro w R s at_ h hs ha he
  have h6 := he.ne h
  have hRlt := h.lt
  have htk := tk_le (p := isDash) ha
  obtain ⟨k, hk⟩ : ∃ k, k = tk isDash s at_ := ⟨_, rfl⟩
  have hrest := tk_rest isDash s at_
  have hlen : (taken isDash ((txt s).drop at_)).1.length = k := hk.symm
  have hsg : signE f ((txt s).drop at_) = sgnR k (f ((txt s).drop (at_ + k))) := by
    unfold signE
    have e : taken (fun c => c == 45) ((txt s).drop at_) = taken isDash ((txt s).drop at_) := rfl
    simp only [e]
    rw [hlen, hk, hrest]
    cases f (taken isDash ((txt s).drop at_)).2 <;> rfl
  rw [hsg]
  clear hsg hrest hlen
  rw [← hk] at htk
  have HK := Lib.hid hk
  clear hk
  obtain ⟨r, hr⟩ : ∃ r, f ((txt s).drop (at_ + k)) = r := ⟨_, rfl⟩
  rw [hr]
  have HR := Lib.hid hr
  clear hr
  obtain ⟨res, hres⟩ : ∃ res : Option (Ex × List UInt8), res = sgnR k r := ⟨_, rfl⟩
  rw [← hres]
  have HE := Lib.hid hres
  clear hres
  have hp := hmakef
  have hbk0 : Blk (w.alloc (.cells #[.int .i64 0] 3)) w.heap.size #[.int .i64 (0 : Nat)] 3 := Blk.new _ _ _
  go_enter Tryz.func136, Tryz.ntmps136
  go_wp2_with fail
  go_loopg [6] (s.size - at_) (fun g _ wr => ∃ m : Nat, at_ + m + g = s.size ∧ m ≤ k ∧ m + tk isDash s (at_ + m) = k ∧ Par wr R s (at_ + m) op ∧ Blk wr w.heap.size #[.int .i64 m] 3 ∧ Stays (fun j => j = R) w wr)
  case atStart => exact ⟨0, by omega, Nat.zero_le _, by rw [HK.out]; simp, h.below ((Below.refl _ _).alloc (Nat.le_refl _) _), hbk0, (Stays.refl _ w).alloc _⟩
  case round =>
    obtain ⟨m, hmg, hmk, htm, hp1, hb1, hst⟩ := hrel
    have HT := Lib.hid htm
    clear htm hbk0
    have HP := Lib.hid (peek_any hp1 hs)
    have hne : w.heap.size ≠ R := by omega
    have n0 := (hb1.cell 0).trans rfl
    have nf := hb1.frozen 0
    cases hd : isDash (byteAt s (at_ + m)) with
    | true =>
      have hlt : at_ + m < s.size := by
        rcases Nat.lt_or_ge (at_ + m) s.size with h | h
        · exact h
        · rw [byteAt_ge h] at hd; cases hd
      have hstep := tk_step hlt hd
      have HS := Lib.hid hstep
      have hnum := dash_num (byteAt s (at_ + m))
      rw [hd] at hnum
      clear hd hstep
      go_wp2_with fail
      refine HP.out.mono ?_
      rintro e w1 ⟨rfl, q, rfl⟩
      obtain ⟨c0, c1, c2, f1, f2⟩ := hp1.facts
      go_wp2_with fail
      go_roundg (gk - 1)
      case measure => omega
      case rel =>
        have hS := HS.out
        have hT := HT.out
        refine ⟨m + 1, by omega, by omega, by rw [show at_ + (m + 1) = at_ + m + 1 by omega]; omega, ?_, ?_, ?_⟩
        · exact Blk.setOther ((hp1.drewN q).setAt (at_ + m + 1)) 0 (.int .i64 (m + 1 : Nat)) hne.symm
        · exact Blk.set (Blk.setOther (hb1.drewN q) 1 (.int .i64 (at_ + m + 1 : Nat)) hne) 0 (.int .i64 (m + 1 : Nat))
        · exact ((hst.drewN q).set (p := ⟨R, 1, none⟩) (.inl rfl) _).set (p := ⟨w.heap.size, 0, none⟩) (.inr (Nat.le_refl _)) _
    | false =>
      have hkm : m = k := by
        have hT := HT.out
        rcases Nat.lt_or_ge (at_ + m) s.size with h | h
        · have := tk_stop h hd; omega
        · have := tk_end (p := isDash) h; omega
      have hnum := dash_num (byteAt s (at_ + m))
      rw [hd] at hnum
      have he1 : ErrR (wr.drewN 0) := he.stays hst (fun e => h6 e.symm)
      have hcon := fun q => hf (wr.drewN q) R s (at_ + m) (hp1.drewN q) hs (by omega) (he.stays (hst.drewN q) (fun e => h6 e.symm))
      rw [hkm] at hcon
      rw [HR.out] at hcon
      have HC := Lib.hid hcon
      clear hd hcon he1
      have hm16 : m ≤ 65536 := by omega
      have hb1lt : w.heap.size < wr.heap.size := hb1.lt
      cases hrr : r with
      | none =>
        rw [hrr] at HC HE
        clear HT HR hrr hkm
        go_wp2_with fail
        refine HP.out.mono ?_
        rintro e w1 ⟨rfl, q, rfl⟩
        go_wp2_with fail
        refine (HC.out q).mono ?_
        rintro e w2 ⟨hst2, rfl⟩
        have hE := HE.out
        simp only [sgnR] at hE
        subst hE
        exact ⟨rfl, (hst.drewN q).trans hst2, rfl⟩
      | some p =>
        obtain ⟨x, t⟩ := p
        rw [hrr] at HC HE
        clear HR hrr
        have HKM := Lib.hid hkm
        clear hkm
        by_cases hm0 : m = 0
        · have hk0 : k = 0 := by have := HKM.out; omega
          have hm0i : ((m : Int) == 0) = true := by rw [hm0]; rfl
          have hE := HE.out
          simp only [sgnR, hk0, if_true] at hE
          have HE2 := Lib.hid hE
          clear HT HKM hk0 hm0 HE hE
          go_wp2_with fail
          refine HP.out.mono ?_
          rintro e w1 ⟨rfl, q, rfl⟩
          go_wp2_with fail
          refine (HC.out q).mono ?_
          rintro e w2 ⟨hst2, g, cap, at2, rfl, hle2, hdr, hp2, hx⟩
          have hb2 : Blk w2 w.heap.size #[.int .i64 m] 3 := Blk.stays (hb1.drewN q) hst2 hne
          have n2 : ∀ o, (w2.alloc o).cell? ⟨w.heap.size, 0, none⟩ = some (.int .i64 m) := fun o => ((hb2.alloc o).cell 0).trans rfl
          clear n0 nf
          go_wp2_with fail
          go_ret
          have hst3 := (hst.drewN q).trans hst2
          have hal : Below w2.heap.size w2 (w2.alloc (.cells #[.func (.func g) #[] cap] 133)) := (Below.refl _ _).alloc (Nat.le_refl _) _
          rw [HE2.out]
          exact ⟨hst3.next hal, g, cap, at2, rfl, hle2, hdr, hp2.below hal, (hx.below hal).wider (New.mono hst.size hal.size) (fun k h => h.2)⟩
        · have hk0 : ¬ k = 0 := by have := HKM.out; omega
          have hm0i : ((m : Int) == 0) = false := by simp; omega
          have hkk : k = m := HKM.out.symm
          have hE := HE.out
          simp only [sgnR, hk0, if_false] at hE
          have HE2 := Lib.hid hE
          clear HE hE
          subst hkk
          clear HT HKM
          go_wp2_with fail
          refine HP.out.mono ?_
          rintro e w1 ⟨rfl, q, rfl⟩
          go_wp2_with fail
          refine (HC.out q).mono ?_
          rintro e w2 ⟨hst2, g, cap, at2, rfl, hle2, hdr, hp2, hx⟩
          have hb2 : Blk w2 w.heap.size #[.int .i64 k] 3 := Blk.stays (hb1.drewN q) hst2 hne
          have n2 : ∀ o, (w2.alloc o).cell? ⟨w.heap.size, 0, none⟩ = some (.int .i64 k) := fun o => ((hb2.alloc o).cell 0).trans rfl
          clear n0 nf
          go_wp2_with fail
          go_ret
          have hst3 := (hst.drewN q).trans hst2
          have hal : Below w2.heap.size w2 (w2.alloc (.cells #[.func (.func g) #[] cap] 133)) := (Below.refl _ _).alloc (Nat.le_refl _) _
          have hx2 := neg_ex (hx.below hal) (Blk.new w2 #[.func (.func g) #[] cap] 133) (hb2.below hal) hm16
          rw [HE2.out]
          refine ⟨hst3.next hal, _, _, at2, rfl, hle2, hdr, hp2.below hal, hx2.wider ?_ ?_⟩
          · rintro j (h1 | rfl | rfl)
            · exact New.mono hst.size hal.size j h1
            · exact ⟨hst3.size, by simp⟩
            · exact ⟨Nat.le_refl _, by have := hst2.size; simp at this ⊢; omega⟩
          · intro j hj; exact hj.2
end Go.Proofs.YtddnmocoaahlfaaGreatDoor
namespace Go.Proofs.YtddnmocoaahlfaaGreatDoor
open Go.RowKit
def BinC (op : Nat) (f : Reads) (o k : Nat) : Prop := ∀ w R L s at_, Par w R s at_ op → s.size ≤ 65536 → at_ ≤ s.size → ErrR w → Lev w L →
  Calls Tryz.prog 111 #[.pointer (some ⟨R, 0, none⟩), .slice (some ⟨L, o, none⟩) k k] w (Rd w R s op (f ((txt s).drop at_)))
theorem bin_last {op : Nat} {f : Reads} (hf : SignC op f) (o : Nat) : BinC op f o 0 := by
  intro w R L s at_ h hs ha he hL
  have HC := Lib.hid (hf w R s at_ h hs ha he)
  obtain ⟨res, hres⟩ : ∃ res, res = f ((txt s).drop at_) := ⟨_, rfl⟩
  rw [← hres] at HC ⊢
  clear hres
  cases res with
  | none =>
    go_enter Tryz.func111, Tryz.ntmps111
    go_wp2_with fail
    refine HC.out.mono ?_
    rintro e w1 ⟨hst, rfl⟩
    exact ⟨rfl, hst, rfl⟩
  | some p =>
    obtain ⟨x, t⟩ := p
    go_enter Tryz.func111, Tryz.ntmps111
    go_wp2_with fail
    refine HC.out.mono ?_
    rintro e w1 ⟨hst, g, cap, at2, rfl, hle2, hdr, hp2, hx⟩
    go_wp2_with fail
    go_ret
    exact ⟨hst, g, cap, at2, rfl, hle2, hdr, hp2, hx⟩
def ToGo (ops : List UInt8) (sv : Bool) (sub : Reads) (cnt : Nat) (a : Ex) (r : List UInt8) (res : Option (Ex × List UInt8)) : Prop :=
  if cnt = 0 ∨ sv = true then moreE ops sv sub (r.length + 1) a r = res else some (a, r) = res
theorem ToGo.start {ops : List UInt8} {sv : Bool} {sub : Reads} {r t : List UInt8} {a : Ex} (h : sub r = some (a, t)) : ToGo ops sv sub 0 a t (levelE ops sv sub r) := by
  unfold ToGo levelE
  rw [if_pos (.inl rfl), h]
theorem ToGo.stop {ops : List UInt8} {sv : Bool} {sub : Reads} {cnt : Nat} {a : Ex} {r : List UInt8} {res : Option (Ex × List UInt8)} (h : ToGo ops sv sub cnt a r res) (hc : ¬ (cnt = 0 ∨ sv = true)) : res = some (a, r) := by
  unfold ToGo at h
  rw [if_neg hc] at h
  exact h.symm
theorem ToGo.none {ops : List UInt8} {sv : Bool} {sub : Reads} {cnt : Nat} {a : Ex} {r : List UInt8} {res : Option (Ex × List UInt8)} (h : ToGo ops sv sub cnt a r res) (hc : r = [] ∨ ∃ c t, r = c :: t ∧ ops.contains c = false) : res = some (a, r) := by
  unfold ToGo at h
  split at h
  · rw [← h]
    unfold moreE
    rcases hc with rfl | ⟨c, t, rfl, hc⟩
    · rfl
    · simp only [hc]; rfl
  · exact h.symm
theorem ToGo.fail {ops : List UInt8} {sv : Bool} {sub : Reads} {cnt : Nat} {a : Ex} {c : UInt8} {t : List UInt8} {res : Option (Ex × List UInt8)} (h : ToGo ops sv sub cnt a (c :: t) res) (hg : cnt = 0 ∨ sv = true) (hc : ops.contains c = true) (hs : sub t = Option.none) : res = Option.none := by
  unfold ToGo at h
  rw [if_pos hg] at h
  rw [← h]
  unfold moreE
  simp only
  rw [if_pos hc, hs]
theorem ToGo.next {ops : List UInt8} {sv : Bool} {sub : Reads} (he : Eats sub) {cnt : Nat} {a b : Ex} {c : UInt8} {t t' : List UInt8} {res : Option (Ex × List UInt8)} (h : ToGo ops sv sub cnt a (c :: t) res) (hg : cnt = 0 ∨ sv = true) (hc : ops.contains c = true) (hs : sub t = some (b, t')) : ToGo ops sv sub (cnt + 1) (.bin c a b) t' res := by
  unfold ToGo at h ⊢
  rw [if_pos hg] at h
  have hlt := he _ _ _ hs
  rw [← h]
  unfold moreE
  simp only
  rw [if_pos hc, hs]
  simp only
  cases sv with
  | true =>
    rw [if_pos (.inr rfl)]
    have := moreE_fuel (ops := ops) (several := true) he (t'.length + 1) (t.length + 1) (.bin c a b) t' (by omega) (by omega)
    rw [if_pos rfl]
    exact this
  | false =>
    rw [if_neg (by simp)]
    simp
theorem peek_ret {w : World} {R : Nat} {s : ByteArray} {at_ op : Nat} (h : Par w R s at_ op) (hs : s.size ≤ 65536) : Calls Tryz.prog 137 #[.pointer (some ⟨R, 0, none⟩)] w (RetV w (.int .u8 (byteAt s at_).toNat)) :=
  (peek_any h hs).mono fun e w' ⟨h1, q, h2⟩ => ⟨h1, h2 ▸ drewN_below w q⟩
theorem Blk.one {w : World} {R : Nat} {u : Value} {T : TypeId} (h : Blk w R #[u] T) : w.cell? ⟨R, 0, none⟩ = some u := (Blk.cell h 0).trans rfl
theorem Blk.drew {w : World} {R : Nat} {cs : Array Value} {T : TypeId} (h : Blk w R cs T) : Blk w.drew R cs T := h
theorem Stays.drew {M : Nat → Prop} {a w : World} (h : Stays M a w) : Stays M a w.drew := ⟨h.os, h.tape, h.output, h.size, h.block⟩
theorem upA {M : Nat → Prop} {X W : World} {o : Obj} (h : Stays M (X.alloc o) W) : Stays M X W := ((Stays.refl M X).alloc o).trans h
theorem upD {M : Nat → Prop} {X W : World} (h : Stays M X.drew W) : Stays M X W := ⟨h.os, h.tape, h.output, h.size, h.block⟩
theorem bxA {R : Nat} {X W : World} {cs : Array Value} {T : TypeId} (h : Stays (fun j => j = R) (X.alloc (.cells cs T)) W) (hm : R < X.heap.size) : Blk W X.heap.size cs T := Blk.stays (Blk.new X cs T) h (fun e => by omega)
theorem bx1 {R : Nat} {X W : World} {cs : Array Value} {T : TypeId} (h : Stays (fun j => j = R) (X.alloc (.cells cs T)) W) (hm : R < X.heap.size) : Blk W X.heap.size cs T ∧ Stays (fun j => j = R) X W := ⟨bxA h hm, upA h⟩
theorem bx2 {R : Nat} {X W : World} {o : Obj} {cs : Array Value} {T : TypeId} (h : Stays (fun j => j = R) ((X.alloc o).alloc (.cells cs T)) W) (hm : R < X.heap.size) : Blk W (X.heap.size + 1) cs T ∧ Stays (fun j => j = R) (X.alloc o) W := by
  have := bxA h (by simp; omega)
  rw [show (X.alloc o).heap.size = X.heap.size + 1 by simp] at this
  exact ⟨this, upA h⟩
theorem bx3 {R : Nat} {X W : World} {o o2 : Obj} {cs : Array Value} {T : TypeId} (h : Stays (fun j => j = R) (((X.alloc o).alloc o2).alloc (.cells cs T)) W) (hm : R < X.heap.size) : Blk W (X.heap.size + 1 + 1) cs T ∧ Stays (fun j => j = R) ((X.alloc o).alloc o2) W := by
  have := bxA h (by simp; omega)
  rw [show ((X.alloc o).alloc o2).heap.size = X.heap.size + 1 + 1 by simp] at this
  exact ⟨this, upA h⟩
def BoxR (w5 : World) (R : Nat) (s : ByteArray) (op : Nat) (g2 : FuncId) (c2 : Array Value) (gf : FuncId) (r2 : Option (Ex × List UInt8)) (x y z : Value) (wx : World) : Prop :=
  ∃ b t X Y Z g3 c3 at3, r2 = some (b, t) ∧ x = .pointer (some ⟨X, 0, none⟩) ∧ y = .pointer (some ⟨Y, 0, none⟩) ∧ z = .pointer (some ⟨Z, 0, none⟩) ∧ w5.heap.size ≤ X ∧ w5.heap.size ≤ Y ∧ w5.heap.size ≤ Z ∧
    wx.cell? ⟨X, 0, none⟩ = some (.func (.func g2) #[] c2) ∧ wx.cell? ⟨Y, 0, none⟩ = some (.func (.func g3) #[] c3) ∧ wx.cell? ⟨Z, 0, none⟩ = some (.func (.func gf) #[] #[]) ∧
    at3 ≤ s.size ∧ (txt s).drop at3 = t ∧ Par wx R s at3 op ∧ ExC (New w5 wx) wx g3 c3 b ∧ Stays (fun j => j = R) w5 wx
theorem bin_cells {F1 F2 : Nat → Prop} {w : World} {X Y Z S : Nat} {g1 g2 g3 : FuncId} {c1 c2 : Array Value} {a b : Ex} {op : UInt8} (h1 : ExC F1 w g1 c1 a) (h2 : ExC F2 w g2 c2 b) (h3 : OpF g3 op)
    (bX : w.cell? ⟨X, 0, none⟩ = some (.func (.func g1) #[] c1)) (bY : w.cell? ⟨Y, 0, none⟩ = some (.func (.func g2) #[] c2)) (bZ : w.cell? ⟨Z, 0, none⟩ = some (.func (.func g3) #[] #[])) (bS : w.cell? ⟨S, 0, none⟩ = some (.int .u8 op.toNat)) :
    ExC (fun k => F1 k ∨ F2 k ∨ k = X ∨ k = Y ∨ k = Z ∨ k = S) w 139 #[.pointer (some ⟨X, 0, none⟩), .pointer (some ⟨Y, 0, none⟩), .pointer (some ⟨Z, 0, none⟩), .pointer (some ⟨S, 0, none⟩)] (.bin op a b) := by
  refine ⟨enters139, ?_, .bin _ h1.fine h2.fine, ?_⟩
  · rintro k (h | h | rfl | rfl | rfl | rfl)
    · exact h1.lt k h
    · exact h2.lt k h
    · exact World.block_lt_of_cell? w _ bX
    · exact World.block_lt_of_cell? w _ bY
    · exact World.block_lt_of_cell? w _ bZ
    · exact World.block_lt_of_cell? w _ bS
  · intro W m σ hW hk hm
    have k1 := h1.keep (w' := W) hW (fun k h => hk k (.inl h))
    have k2 := h2.keep (w' := W) hW (fun k h => hk k (.inr (.inl h)))
    have kX := (World.cell?_of_block (a := ⟨X, 0, none⟩) (hk X (by simp))).trans bX
    have kY := (World.cell?_of_block (a := ⟨Y, 0, none⟩) (hk Y (by simp))).trans bY
    have kZ := (World.cell?_of_block (a := ⟨Z, 0, none⟩) (hk Z (by simp))).trans bZ
    have kS := (World.cell?_of_block (a := ⟨S, 0, none⟩) (hk S (by simp))).trans bS
    exact bin_calls_cells hm k1 k2 h3 kX kY kZ kS
theorem exN {lo : Nat} {pre wq : World} {g : FuncId} {c : Array Value} {b : Ex} (h : ExC (New pre wq) wq g c b) (hlo : lo ≤ pre.heap.size) : ExC (fun k => lo ≤ k ∧ k < wq.heap.size) wq g c b := h.wider (fun k hk => ⟨Nat.le_trans hlo hk.1, hk.2⟩) (fun k hk => hk.2)
theorem exN0 {X wq : World} {g : FuncId} {c : Array Value} {b : Ex} (h : ExC (New X wq) wq g c b) : ExC (fun k => X.heap.size ≤ k ∧ k < wq.heap.size) wq g c b := exN h (Nat.le_refl _)
theorem exN1 {X wq : World} {o : Obj} {g : FuncId} {c : Array Value} {b : Ex} (h : ExC (New (X.alloc o) wq) wq g c b) : ExC (fun k => X.heap.size + 1 ≤ k ∧ k < wq.heap.size) wq g c b := exN h (by simp)
theorem exN2 {X wq : World} {o o2 : Obj} {g : FuncId} {c : Array Value} {b : Ex} (h : ExC (New ((X.alloc o).alloc o2) wq) wq g c b) : ExC (fun k => X.heap.size + 1 + 1 ≤ k ∧ k < wq.heap.size) wq g c b := exN h (by simp)
theorem exN3 {X wq : World} {o o2 o3 : Obj} {g : FuncId} {c : Array Value} {b : Ex} (h : ExC (New (((X.alloc o).alloc o2).alloc o3) wq) wq g c b) : ExC (fun k => X.heap.size + 1 + 1 + 1 ≤ k ∧ k < wq.heap.size) wq g c b := exN h (by simp)
theorem exDrewN {a w : World} {n : Nat} {g : FuncId} {c : Array Value} {b : Ex} (h : ExC (New a w) w g c b) : ExC (New a (w.drewN n)) (w.drewN n) g c b := ⟨h.enters, h.lt, h.fine, h.calls⟩
theorem exD {X wq : World} {g : FuncId} {c : Array Value} {b : Ex} (h : ExC (New X.drew wq) wq g c b) : ExC (New X wq) wq g c b := h
theorem exEnd {lo : Nat} {w5 wq wx : World} {g : FuncId} {c : Array Value} {b : Ex} (h : ExC (fun k => lo ≤ k ∧ k < wq.heap.size) wq g c b) (hlo : w5.heap.size ≤ lo) (hs : Stays (fun k => k < lo) wq wx) : ExC (New w5 wx) wx g c b :=
  (h.stays hs (fun k hk => by omega)).wider (fun k hk => ⟨Nat.le_trans hlo hk.1, Nat.lt_of_lt_of_le hk.2 hs.size⟩) (fun k hk => hk.2)
theorem Par.alloc {w : World} {R : Nat} {s : ByteArray} {at_ op : Nat} (h : Par w R s at_ op) (o : Obj) : Par (w.alloc o) R s at_ op := Blk.alloc h o
theorem Par.put {w : World} {R B : Nat} {s : ByteArray} {at_ op : Nat} (h : Par w R s at_ op) (hne : R < B) (v : Value) : Par (w.setCell ⟨B, 0, none⟩ v) R s at_ op := Blk.setOther h 0 v (Nat.ne_of_lt hne)
theorem cs_same {w : World} {p : Addr} {u v : Value} (h : w.cell? p = some u) : (w.setCell p v).cell? p = some v := by
  unfold World.cell? World.setCell at *
  cases hh : w.heap[p.block]? with
  | none => rw [hh] at h; cases h
  | some o =>
    rw [hh] at h
    simp only [Array.getElem?_modify, if_true, hh, Option.map_some]
    cases o with
    | cells c T z =>
      by_cases hs : p.spot.isSome = true
      · simp [hs] at h
      · simp only [hs] at h
        have hlt := (Array.getElem?_eq_some_iff.1 h).1
        simp [hs, hlt]
    | _ => cases h
theorem cs_other {w : World} {p q : Addr} {u v : Value} (h : w.cell? q = some u) (hne : q.block ≠ p.block) : (w.setCell p v).cell? q = some u := (World.cell?_of_block (w := w) (Below.heap_setCell _ _ _ _ hne)).trans h
theorem ca_old {w : World} {o : Obj} {q : Addr} {u : Value} (h : w.cell? q = some u) : (w.alloc o).cell? q = some u := (World.cell?_of_block (w := w) (heap_alloc_old w o (World.block_lt_of_cell? w q h))).trans h
theorem ca_new {w : World} {v : Value} {T : TypeId} {n : Nat} (hn : w.heap.size = n) : (w.alloc (.cells #[v] T)).cell? ⟨n, 0, none⟩ = some v := by
  subst hn; exact ((Blk.new w #[v] T).cell 0).trans rfl
theorem size_set (w : World) (p : Addr) (v : Value) : (w.setCell p v).heap.size = w.heap.size := by unfold World.setCell; simp
theorem size_alloc (w : World) (o : Obj) : (w.alloc o).heap.size = w.heap.size + 1 := by simp
theorem be0 (X : World) : Below X.heap.size X X.drew := (Below.refl _ _).drew
theorem be1 (X : World) (o : Obj) : Below X.heap.size X (X.alloc o).drew := ((Below.refl _ _).alloc (Nat.le_refl _) _).drew
theorem be2 (X : World) (o o2 : Obj) : Below X.heap.size X ((X.alloc o).alloc o2).drew := (((Below.refl _ _).alloc (Nat.le_refl _) _).alloc (by simp) _).drew
theorem be3 (X : World) (o o2 o3 : Obj) : Below X.heap.size X (((X.alloc o).alloc o2).alloc o3).drew := ((((Below.refl _ _).alloc (Nat.le_refl _) _).alloc (by simp) _).alloc (by simp; omega) _).drew
theorem rd_cases {w : World} {R : Nat} {s : ByteArray} {op : Nat} {r : Option (Ex × List UInt8)} {e : Ending} {w' : World} (h : Rd w R s op r e w') :
    (r = none ∧ e = .panicked [Tr 4] ∧ Stays (fun k => k = R) w w') ∨ (∃ x t g cap at', r = some (x, t) ∧ e = .returned (.func (.func g) #[] cap) ∧ Stays (fun k => k = R) w w' ∧ at' ≤ s.size ∧ (txt s).drop at' = t ∧ Par w' R s at' op ∧ ExC (New w w') w' g cap x) := by
  obtain ⟨hs, h⟩ := h
  cases r with
  | none => exact .inl ⟨rfl, h, hs⟩
  | some p =>
    obtain ⟨x, t⟩ := p
    obtain ⟨g, cap, at', h1, h2, h3, h4, h5⟩ := h
    exact .inr ⟨x, t, g, cap, at', rfl, h1, hs, h2, h3, h4, h5⟩
theorem rdNone {w : World} {R : Nat} {s : ByteArray} {op : Nat} {r : Option (Ex × List UInt8)} {w' : World} (h : r = none) (hs : Stays (fun k => k = R) w w') : Rd w R s op r (.panicked [Tr 4]) w' := by
  subst h; exact ⟨hs, rfl⟩
theorem keepS {L O : Nat} {gf : FuncId} {w w5 W : World} {M : Nat → Prop} {A B C : World → Prop} (h : ∀ W, Stays M w W → A W ∧ W.cell? ⟨L, O, none⟩ = some (.func (.func gf) #[] #[]) ∧ B W ∧ C W) (h5 : Stays M w w5) (hs : Stays M w5 W) : W.cell? ⟨L, O, none⟩ = some (.func (.func gf) #[] #[]) ∧ Stays M w5 W := ⟨(h W (h5.trans hs)).2.1, hs⟩
theorem byteNum (d : UInt8) (n : Nat) (hn : n < 256) : ((d.toNat : Int) == (n : Int)) = (d == UInt8.ofNat n) := by
  have e : (UInt8.ofNat n).toNat = n := by rw [UInt8.toNat_ofNat']; omega
  by_cases h : d = UInt8.ofNat n
  · subst h; rw [e]; simp
  · have : d.toNat ≠ n := fun h' => h (UInt8.toNat_inj.1 (by rw [e]; exact h'))
    have h1 : ((d.toNat : Int) == (n : Int)) = false := by simp; omega
    rw [h1]; simp [h]
end Go.Proofs.YtddnmocoaahlfaaGreatDoor
