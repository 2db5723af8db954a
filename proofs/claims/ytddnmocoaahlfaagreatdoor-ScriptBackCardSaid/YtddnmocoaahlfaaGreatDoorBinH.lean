/-
  The contract of the reader's binary: every line of the grammar. Condition: texts of at most 65536 bytes; the variable of the range error holds an error or none.
-/
import Derived.Test.YtddnmocoaahlfaaGreatDoorSign
import Derived.Deep.DeepCutAuto
import Derived.Deep.RegionWith
set_option linter.unusedVariables false
set_option linter.unusedSimpArgs false

namespace Go.Proofs.YtddnmocoaahlfaaGreatDoor
open Go.RowKit
/-- The contract of binary at the last k lines of the grammar, which lie from place o on. -/
def BinC (op : Nat) (f : Reads) (o k : Nat) : Prop := ∀ w R L s at_, Par w R s at_ op → s.size ≤ 65536 → at_ ≤ s.size → ErrR w → Lev w L →
  Calls Tryz.prog 111 #[.pointer (some ⟨R, 0, none⟩), .slice (some ⟨L, o, none⟩) k k] w (Rd w R s op (f ((txt s).drop at_)))
theorem bin_last {op : Nat} {f : Reads} (hf : SignC op f) (o : Nat) : BinC op f o 0 := by
  intro w R L s at_ h hs ha he hL
  have HC := Lib.hid (hf w R s at_ h hs ha he)
  obtain ⟨res, hres⟩ : ∃ res, res = f ((txt s).drop at_) := ⟨_, rfl⟩
  rw [← hres] at HC ⊢
  clear hres
  cases res with
  | none =>
    go_enter Tryz.func111, Tryz.ntmps111
    go_wp2_with fail
    refine HC.out.mono ?_
    rintro e w1 ⟨hst, rfl⟩
    exact ⟨rfl, hst, rfl⟩
  | some p =>
    obtain ⟨x, t⟩ := p
    go_enter Tryz.func111, Tryz.ntmps111
    go_wp2_with fail
    refine HC.out.mono ?_
    rintro e w1 ⟨hst, g, cap, at2, rfl, hle2, hdr, hp2, hx⟩
    go_wp2_with fail
    go_ret
    exact ⟨hst, g, cap, at2, rfl, hle2, hdr, hp2, hx⟩
/-- What the loop over the operators still has to give. -/
def ToGo (ops : List UInt8) (sv : Bool) (sub : Reads) (cnt : Nat) (a : Ex) (r : List UInt8) (res : Option (Ex × List UInt8)) : Prop :=
  if cnt = 0 ∨ sv = true then moreE ops sv sub (r.length + 1) a r = res else some (a, r) = res
theorem ToGo.start {ops : List UInt8} {sv : Bool} {sub : Reads} {r t : List UInt8} {a : Ex} (h : sub r = some (a, t)) : ToGo ops sv sub 0 a t (levelE ops sv sub r) := by
  unfold ToGo levelE
  rw [if_pos (.inl rfl), h]
theorem ToGo.stop {ops : List UInt8} {sv : Bool} {sub : Reads} {cnt : Nat} {a : Ex} {r : List UInt8} {res : Option (Ex × List UInt8)} (h : ToGo ops sv sub cnt a r res) (hc : ¬ (cnt = 0 ∨ sv = true)) : res = some (a, r) := by
  unfold ToGo at h
  rw [if_neg hc] at h
  exact h.symm
theorem ToGo.none {ops : List UInt8} {sv : Bool} {sub : Reads} {cnt : Nat} {a : Ex} {r : List UInt8} {res : Option (Ex × List UInt8)} (h : ToGo ops sv sub cnt a r res) (hc : r = [] ∨ ∃ c t, r = c :: t ∧ ops.contains c = false) : res = some (a, r) := by
  unfold ToGo at h
  split at h
  · rw [← h]
    unfold moreE
    rcases hc with rfl | ⟨c, t, rfl, hc⟩
    · rfl
    · simp only [hc]; rfl
  · exact h.symm
theorem ToGo.fail {ops : List UInt8} {sv : Bool} {sub : Reads} {cnt : Nat} {a : Ex} {c : UInt8} {t : List UInt8} {res : Option (Ex × List UInt8)} (h : ToGo ops sv sub cnt a (c :: t) res) (hg : cnt = 0 ∨ sv = true) (hc : ops.contains c = true) (hs : sub t = Option.none) : res = Option.none := by
  unfold ToGo at h
  rw [if_pos hg] at h
  rw [← h]
  unfold moreE
  simp only
  rw [if_pos hc, hs]
theorem ToGo.next {ops : List UInt8} {sv : Bool} {sub : Reads} (he : Eats sub) {cnt : Nat} {a b : Ex} {c : UInt8} {t t' : List UInt8} {res : Option (Ex × List UInt8)} (h : ToGo ops sv sub cnt a (c :: t) res) (hg : cnt = 0 ∨ sv = true) (hc : ops.contains c = true) (hs : sub t = some (b, t')) : ToGo ops sv sub (cnt + 1) (.bin c a b) t' res := by
  unfold ToGo at h ⊢
  rw [if_pos hg] at h
  have hlt := he _ _ _ hs
  rw [← h]
  unfold moreE
  simp only
  rw [if_pos hc, hs]
  simp only
  cases sv with
  | true =>
    rw [if_pos (.inr rfl)]
    have := moreE_fuel (ops := ops) (several := true) he (t'.length + 1) (t.length + 1) (.bin c a b) t' (by omega) (by omega)
    rw [if_pos rfl]
    exact this
  | false =>
    rw [if_neg (by simp)]
    simp
theorem peek_ret {w : World} {R : Nat} {s : ByteArray} {at_ op : Nat} (h : Par w R s at_ op) (hs : s.size ≤ 65536) : Calls Tryz.prog 137 #[.pointer (some ⟨R, 0, none⟩)] w (RetV w (.int .u8 (byteAt s at_).toNat)) :=
  (peek_any h hs).mono fun e w' ⟨h1, q, h2⟩ => ⟨h1, h2 ▸ drewN_below w q⟩
theorem Blk.one {w : World} {R : Nat} {u : Value} {T : TypeId} (h : Blk w R #[u] T) : w.cell? ⟨R, 0, none⟩ = some u := (Blk.cell h 0).trans rfl
theorem Blk.drew {w : World} {R : Nat} {cs : Array Value} {T : TypeId} (h : Blk w R cs T) : Blk w.drew R cs T := h
theorem Stays.drew {M : Nat → Prop} {a w : World} (h : Stays M a w) : Stays M a w.drew := ⟨h.os, h.tape, h.output, h.size, h.block⟩
theorem upA {M : Nat → Prop} {X W : World} {o : Obj} (h : Stays M (X.alloc o) W) : Stays M X W := ((Stays.refl M X).alloc o).trans h
theorem upD {M : Nat → Prop} {X W : World} (h : Stays M X.drew W) : Stays M X W := ⟨h.os, h.tape, h.output, h.size, h.block⟩
theorem bxA {R : Nat} {X W : World} {cs : Array Value} {T : TypeId} (h : Stays (fun j => j = R) (X.alloc (.cells cs T)) W) (hm : R < X.heap.size) : Blk W X.heap.size cs T := Blk.stays (Blk.new X cs T) h (fun e => by omega)
theorem bx1 {R : Nat} {X W : World} {cs : Array Value} {T : TypeId} (h : Stays (fun j => j = R) (X.alloc (.cells cs T)) W) (hm : R < X.heap.size) : Blk W X.heap.size cs T ∧ Stays (fun j => j = R) X W := ⟨bxA h hm, upA h⟩
theorem bx2 {R : Nat} {X W : World} {o : Obj} {cs : Array Value} {T : TypeId} (h : Stays (fun j => j = R) ((X.alloc o).alloc (.cells cs T)) W) (hm : R < X.heap.size) : Blk W (X.heap.size + 1) cs T ∧ Stays (fun j => j = R) (X.alloc o) W := by
  have := bxA h (by simp; omega)
  rw [show (X.alloc o).heap.size = X.heap.size + 1 by simp] at this
  exact ⟨this, upA h⟩
theorem bx3 {R : Nat} {X W : World} {o o2 : Obj} {cs : Array Value} {T : TypeId} (h : Stays (fun j => j = R) (((X.alloc o).alloc o2).alloc (.cells cs T)) W) (hm : R < X.heap.size) : Blk W (X.heap.size + 1 + 1) cs T ∧ Stays (fun j => j = R) ((X.alloc o).alloc o2) W := by
  have := bxA h (by simp; omega)
  rw [show ((X.alloc o).alloc o2).heap.size = X.heap.size + 1 + 1 by simp] at this
  exact ⟨this, upA h⟩
/-- What the statement that makes the three boxes leaves. -/
def BoxR (w5 : World) (R : Nat) (s : ByteArray) (op : Nat) (g2 : FuncId) (c2 : Array Value) (gf : FuncId) (r2 : Option (Ex × List UInt8)) (x y z : Value) (wx : World) : Prop :=
  ∃ b t X Y Z g3 c3 at3, r2 = some (b, t) ∧ x = .pointer (some ⟨X, 0, none⟩) ∧ y = .pointer (some ⟨Y, 0, none⟩) ∧ z = .pointer (some ⟨Z, 0, none⟩) ∧ w5.heap.size ≤ X ∧ w5.heap.size ≤ Y ∧ w5.heap.size ≤ Z ∧
    wx.cell? ⟨X, 0, none⟩ = some (.func (.func g2) #[] c2) ∧ wx.cell? ⟨Y, 0, none⟩ = some (.func (.func g3) #[] c3) ∧ wx.cell? ⟨Z, 0, none⟩ = some (.func (.func gf) #[] #[]) ∧
    at3 ≤ s.size ∧ (txt s).drop at3 = t ∧ Par wx R s at3 op ∧ ExC (New w5 wx) wx g3 c3 b ∧ Stays (fun j => j = R) w5 wx
theorem bin_cells {F1 F2 : Nat → Prop} {w : World} {X Y Z S : Nat} {g1 g2 g3 : FuncId} {c1 c2 : Array Value} {a b : Ex} {op : UInt8} (h1 : ExC F1 w g1 c1 a) (h2 : ExC F2 w g2 c2 b) (h3 : OpF g3 op)
    (bX : w.cell? ⟨X, 0, none⟩ = some (.func (.func g1) #[] c1)) (bY : w.cell? ⟨Y, 0, none⟩ = some (.func (.func g2) #[] c2)) (bZ : w.cell? ⟨Z, 0, none⟩ = some (.func (.func g3) #[] #[])) (bS : w.cell? ⟨S, 0, none⟩ = some (.int .u8 op.toNat)) :
    ExC (fun k => F1 k ∨ F2 k ∨ k = X ∨ k = Y ∨ k = Z ∨ k = S) w 139 #[.pointer (some ⟨X, 0, none⟩), .pointer (some ⟨Y, 0, none⟩), .pointer (some ⟨Z, 0, none⟩), .pointer (some ⟨S, 0, none⟩)] (.bin op a b) := by
  refine ⟨enters139, ?_, .bin _ h1.fine h2.fine, ?_⟩
  · rintro k (h | h | rfl | rfl | rfl | rfl)
    · exact h1.lt k h
    · exact h2.lt k h
    · exact World.block_lt_of_cell? w _ bX
    · exact World.block_lt_of_cell? w _ bY
    · exact World.block_lt_of_cell? w _ bZ
    · exact World.block_lt_of_cell? w _ bS
  · intro W m σ hW hk hm
    have k1 := h1.keep (w' := W) hW (fun k h => hk k (.inl h))
    have k2 := h2.keep (w' := W) hW (fun k h => hk k (.inr (.inl h)))
    have kX := (World.cell?_of_block (a := ⟨X, 0, none⟩) (hk X (by simp))).trans bX
    have kY := (World.cell?_of_block (a := ⟨Y, 0, none⟩) (hk Y (by simp))).trans bY
    have kZ := (World.cell?_of_block (a := ⟨Z, 0, none⟩) (hk Z (by simp))).trans bZ
    have kS := (World.cell?_of_block (a := ⟨S, 0, none⟩) (hk S (by simp))).trans bS
    exact bin_calls_cells hm k1 k2 h3 kX kY kZ kS
theorem exN {lo : Nat} {pre wq : World} {g : FuncId} {c : Array Value} {b : Ex} (h : ExC (New pre wq) wq g c b) (hlo : lo ≤ pre.heap.size) : ExC (fun k => lo ≤ k ∧ k < wq.heap.size) wq g c b := h.wider (fun k hk => ⟨Nat.le_trans hlo hk.1, hk.2⟩) (fun k hk => hk.2)
theorem exN0 {X wq : World} {g : FuncId} {c : Array Value} {b : Ex} (h : ExC (New X wq) wq g c b) : ExC (fun k => X.heap.size ≤ k ∧ k < wq.heap.size) wq g c b := exN h (Nat.le_refl _)
theorem exN1 {X wq : World} {o : Obj} {g : FuncId} {c : Array Value} {b : Ex} (h : ExC (New (X.alloc o) wq) wq g c b) : ExC (fun k => X.heap.size + 1 ≤ k ∧ k < wq.heap.size) wq g c b := exN h (by simp)
theorem exN2 {X wq : World} {o o2 : Obj} {g : FuncId} {c : Array Value} {b : Ex} (h : ExC (New ((X.alloc o).alloc o2) wq) wq g c b) : ExC (fun k => X.heap.size + 1 + 1 ≤ k ∧ k < wq.heap.size) wq g c b := exN h (by simp)
theorem exN3 {X wq : World} {o o2 o3 : Obj} {g : FuncId} {c : Array Value} {b : Ex} (h : ExC (New (((X.alloc o).alloc o2).alloc o3) wq) wq g c b) : ExC (fun k => X.heap.size + 1 + 1 + 1 ≤ k ∧ k < wq.heap.size) wq g c b := exN h (by simp)
theorem exDrewN {a w : World} {n : Nat} {g : FuncId} {c : Array Value} {b : Ex} (h : ExC (New a w) w g c b) : ExC (New a (w.drewN n)) (w.drewN n) g c b := ⟨h.enters, h.lt, h.fine, h.calls⟩
theorem exD {X wq : World} {g : FuncId} {c : Array Value} {b : Ex} (h : ExC (New X.drew wq) wq g c b) : ExC (New X wq) wq g c b := h
theorem exEnd {lo : Nat} {w5 wq wx : World} {g : FuncId} {c : Array Value} {b : Ex} (h : ExC (fun k => lo ≤ k ∧ k < wq.heap.size) wq g c b) (hlo : w5.heap.size ≤ lo) (hs : Stays (fun k => k < lo) wq wx) : ExC (New w5 wx) wx g c b :=
  (h.stays hs (fun k hk => by omega)).wider (fun k hk => ⟨Nat.le_trans hlo hk.1, Nat.lt_of_lt_of_le hk.2 hs.size⟩) (fun k hk => hk.2)
theorem Par.alloc {w : World} {R : Nat} {s : ByteArray} {at_ op : Nat} (h : Par w R s at_ op) (o : Obj) : Par (w.alloc o) R s at_ op := Blk.alloc h o
theorem Par.put {w : World} {R B : Nat} {s : ByteArray} {at_ op : Nat} (h : Par w R s at_ op) (hne : R < B) (v : Value) : Par (w.setCell ⟨B, 0, none⟩ v) R s at_ op := Blk.setOther h 0 v (Nat.ne_of_lt hne)
theorem cs_same {w : World} {p : Addr} {u v : Value} (h : w.cell? p = some u) : (w.setCell p v).cell? p = some v := by
  unfold World.cell? World.setCell at *
  cases hh : w.heap[p.block]? with
  | none => rw [hh] at h; cases h
  | some o =>
    rw [hh] at h
    simp only [Array.getElem?_modify, if_true, hh, Option.map_some]
    cases o with
    | cells c T z =>
      by_cases hs : p.spot.isSome = true
      · simp [hs] at h
      · simp only [hs] at h
        have hlt := (Array.getElem?_eq_some_iff.1 h).1
        simp [hs, hlt]
    | _ => cases h
theorem cs_other {w : World} {p q : Addr} {u v : Value} (h : w.cell? q = some u) (hne : q.block ≠ p.block) : (w.setCell p v).cell? q = some u := (World.cell?_of_block (w := w) (Below.heap_setCell _ _ _ _ hne)).trans h
theorem ca_old {w : World} {o : Obj} {q : Addr} {u : Value} (h : w.cell? q = some u) : (w.alloc o).cell? q = some u := (World.cell?_of_block (w := w) (heap_alloc_old w o (World.block_lt_of_cell? w q h))).trans h
theorem ca_new {w : World} {v : Value} {T : TypeId} {n : Nat} (hn : w.heap.size = n) : (w.alloc (.cells #[v] T)).cell? ⟨n, 0, none⟩ = some v := by
  subst hn; exact ((Blk.new w #[v] T).cell 0).trans rfl
theorem size_set (w : World) (p : Addr) (v : Value) : (w.setCell p v).heap.size = w.heap.size := by unfold World.setCell; simp
theorem size_alloc (w : World) (o : Obj) : (w.alloc o).heap.size = w.heap.size + 1 := by simp
theorem be0 (X : World) : Below X.heap.size X X.drew := (Below.refl _ _).drew
theorem be1 (X : World) (o : Obj) : Below X.heap.size X (X.alloc o).drew := ((Below.refl _ _).alloc (Nat.le_refl _) _).drew
theorem be2 (X : World) (o o2 : Obj) : Below X.heap.size X ((X.alloc o).alloc o2).drew := (((Below.refl _ _).alloc (Nat.le_refl _) _).alloc (by simp) _).drew
theorem be3 (X : World) (o o2 o3 : Obj) : Below X.heap.size X (((X.alloc o).alloc o2).alloc o3).drew := ((((Below.refl _ _).alloc (Nat.le_refl _) _).alloc (by simp) _).alloc (by simp; omega) _).drew
theorem rd_cases {w : World} {R : Nat} {s : ByteArray} {op : Nat} {r : Option (Ex × List UInt8)} {e : Ending} {w' : World} (h : Rd w R s op r e w') :
    (r = none ∧ e = .panicked [Tr 4] ∧ Stays (fun k => k = R) w w') ∨ (∃ x t g cap at', r = some (x, t) ∧ e = .returned (.func (.func g) #[] cap) ∧ Stays (fun k => k = R) w w' ∧ at' ≤ s.size ∧ (txt s).drop at' = t ∧ Par w' R s at' op ∧ ExC (New w w') w' g cap x) := by
  obtain ⟨hs, h⟩ := h
  cases r with
  | none => exact .inl ⟨rfl, h, hs⟩
  | some p =>
    obtain ⟨x, t⟩ := p
    obtain ⟨g, cap, at', h1, h2, h3, h4, h5⟩ := h
    exact .inr ⟨x, t, g, cap, at', rfl, h1, hs, h2, h3, h4, h5⟩
theorem rdNone {w : World} {R : Nat} {s : ByteArray} {op : Nat} {r : Option (Ex × List UInt8)} {w' : World} (h : r = none) (hs : Stays (fun k => k = R) w w') : Rd w R s op r (.panicked [Tr 4]) w' := by
  subst h; exact ⟨hs, rfl⟩
theorem keepS {L O : Nat} {gf : FuncId} {w w5 W : World} {M : Nat → Prop} {A B C : World → Prop} (h : ∀ W, Stays M w W → A W ∧ W.cell? ⟨L, O, none⟩ = some (.func (.func gf) #[] #[]) ∧ B W ∧ C W) (h5 : Stays M w w5) (hs : Stays M w5 W) : W.cell? ⟨L, O, none⟩ = some (.func (.func gf) #[] #[]) ∧ Stays M w5 W := ⟨(h W (h5.trans hs)).2.1, hs⟩
theorem byteNum (d : UInt8) (n : Nat) (hn : n < 256) : ((d.toNat : Int) == (n : Int)) = (d == UInt8.ofNat n) := by
  have e : (UInt8.ofNat n).toNat = n := by rw [UInt8.toNat_ofNat']; omega
  by_cases h : d = UInt8.ofNat n
  · subst h; rw [e]; simp
  · have : d.toNat ≠ n := fun h' => h (UInt8.toNat_inj.1 (by rw [e]; exact h'))
    have h1 : ((d.toNat : Int) == (n : Int)) = false := by simp; omega
    rw [h1]; simp [h]
end Go.Proofs.YtddnmocoaahlfaaGreatDoor
