/-
  The contract of the reader's sign. Condition: texts of at most 65536 bytes; the variable of the range error holds an error or none.
-/
import Derived.Test.YtddnmocoaahlfaaGreatDoorPrim
import Derived.Laws.EntriesVeiled
set_option linter.unusedVariables false
set_option linter.unusedSimpArgs false

namespace Go.Proofs.YtddnmocoaahlfaaGreatDoor
open Go.RowKit
def SignC (op : Nat) (f : Reads) : Prop := ∀ w R s at_, Par w R s at_ op → s.size ≤ 65536 → at_ ≤ s.size → ErrR w → Calls Tryz.prog 136 #[.pointer (some ⟨R, 0, none⟩)] w (Rd w R s op (f ((txt s).drop at_)))
def sgnR (k : Nat) (r : Option (Ex × List UInt8)) : Option (Ex × List UInt8) := match r with | none => none | some (x, t) => some (if k = 0 then x else .neg k x, t)
def isDash (c : UInt8) : Bool := c == 45
theorem dash_num (c : UInt8) : ((c.toNat : Int) == 45) = isDash c := by
  unfold isDash
  by_cases h : c = 45
  · subst h; rfl
  · have : c.toNat ≠ 45 := fun e => h (UInt8.toNat_inj.1 e)
    have h1 : ((c.toNat : Int) == 45) = false := by simp; omega
    rw [h1]; simp [h]
set_option maxHeartbeats 2000000 in
theorem sign_any {op : Nat} {f : Reads} (hf : PrimC op f) : SignC op (signE f) := by
  intro w R s at_ h hs ha he
  have h6 := he.ne h
  have hRlt := h.lt
  have htk := tk_le (p := isDash) ha
  obtain ⟨k, hk⟩ : ∃ k, k = tk isDash s at_ := ⟨_, rfl⟩
  have hrest := tk_rest isDash s at_
  have hlen : (taken isDash ((txt s).drop at_)).1.length = k := hk.symm
  have hsg : signE f ((txt s).drop at_) = sgnR k (f ((txt s).drop (at_ + k))) := by
    unfold signE
    have e : taken (fun c => c == 45) ((txt s).drop at_) = taken isDash ((txt s).drop at_) := rfl
    simp only [e]
    rw [hlen, hk, hrest]
    cases f (taken isDash ((txt s).drop at_)).2 <;> rfl
  rw [hsg]
  clear hsg hrest hlen
  rw [← hk] at htk
  have HK := Lib.hid hk
  clear hk
  obtain ⟨r, hr⟩ : ∃ r, f ((txt s).drop (at_ + k)) = r := ⟨_, rfl⟩
  rw [hr]
  have HR := Lib.hid hr
  clear hr
  obtain ⟨res, hres⟩ : ∃ res : Option (Ex × List UInt8), res = sgnR k r := ⟨_, rfl⟩
  rw [← hres]
  have HE := Lib.hid hres
  clear hres
  have hp := hmakef
  have hbk0 : Blk (w.alloc (.cells #[.int .i64 0] 3)) w.heap.size #[.int .i64 (0 : Nat)] 3 := Blk.new _ _ _
  go_enter Tryz.func136, Tryz.ntmps136
  go_wp2_with fail
  go_loopg [6] (s.size - at_) (fun g _ wr => ∃ m : Nat, at_ + m + g = s.size ∧ m ≤ k ∧ m + tk isDash s (at_ + m) = k ∧ Par wr R s (at_ + m) op ∧ Blk wr w.heap.size #[.int .i64 m] 3 ∧ Stays (fun j => j = R) w wr)
  case atStart => exact ⟨0, by omega, Nat.zero_le _, by rw [HK.out]; simp, h.below ((Below.refl _ _).alloc (Nat.le_refl _) _), hbk0, (Stays.refl _ w).alloc _⟩
  case round =>
    obtain ⟨m, hmg, hmk, htm, hp1, hb1, hst⟩ := hrel
    have HT := Lib.hid htm
    clear htm hbk0
    have HP := Lib.hid (peek_any hp1 hs)
    have hne : w.heap.size ≠ R := by omega
    have n0 := (hb1.cell 0).trans rfl
    have nf := hb1.frozen 0
    cases hd : isDash (byteAt s (at_ + m)) with
    | true =>
      have hlt : at_ + m < s.size := by
        rcases Nat.lt_or_ge (at_ + m) s.size with h | h
        · exact h
        · rw [byteAt_ge h] at hd; cases hd
      have hstep := tk_step hlt hd
      have HS := Lib.hid hstep
      have hnum := dash_num (byteAt s (at_ + m))
      rw [hd] at hnum
      clear hd hstep
      go_wp2_with fail
      refine HP.out.mono ?_
      rintro e w1 ⟨rfl, q, rfl⟩
      obtain ⟨c0, c1, c2, f1, f2⟩ := hp1.facts
      go_wp2_with fail
      go_roundg (gk - 1)
      case measure => omega
      case rel =>
        have hS := HS.out
        have hT := HT.out
        refine ⟨m + 1, by omega, by omega, by rw [show at_ + (m + 1) = at_ + m + 1 by omega]; omega, ?_, ?_, ?_⟩
        · exact Blk.setOther ((hp1.drewN q).setAt (at_ + m + 1)) 0 (.int .i64 (m + 1 : Nat)) hne.symm
        · exact Blk.set (Blk.setOther (hb1.drewN q) 1 (.int .i64 (at_ + m + 1 : Nat)) hne) 0 (.int .i64 (m + 1 : Nat))
        · exact ((hst.drewN q).set (p := ⟨R, 1, none⟩) (.inl rfl) _).set (p := ⟨w.heap.size, 0, none⟩) (.inr (Nat.le_refl _)) _
    | false =>
      have hkm : m = k := by
        have hT := HT.out
        rcases Nat.lt_or_ge (at_ + m) s.size with h | h
        · have := tk_stop h hd; omega
        · have := tk_end (p := isDash) h; omega
      have hnum := dash_num (byteAt s (at_ + m))
      rw [hd] at hnum
      have he1 : ErrR (wr.drewN 0) := he.stays hst (fun e => h6 e.symm)
      have hcon := fun q => hf (wr.drewN q) R s (at_ + m) (hp1.drewN q) hs (by omega) (he.stays (hst.drewN q) (fun e => h6 e.symm))
      rw [hkm] at hcon
      rw [HR.out] at hcon
      have HC := Lib.hid hcon
      clear hd hcon he1
      have hm16 : m ≤ 65536 := by omega
      have hb1lt : w.heap.size < wr.heap.size := hb1.lt
      cases hrr : r with
      | none =>
        rw [hrr] at HC HE
        clear HT HR hrr hkm
        go_wp2_with fail
        refine HP.out.mono ?_
        rintro e w1 ⟨rfl, q, rfl⟩
        go_wp2_with fail
        refine (HC.out q).mono ?_
        rintro e w2 ⟨hst2, rfl⟩
        have hE := HE.out
        simp only [sgnR] at hE
        subst hE
        exact ⟨rfl, (hst.drewN q).trans hst2, rfl⟩
      | some p =>
        obtain ⟨x, t⟩ := p
        rw [hrr] at HC HE
        clear HR hrr
        have HKM := Lib.hid hkm
        clear hkm
        by_cases hm0 : m = 0
        · have hk0 : k = 0 := by have := HKM.out; omega
          have hm0i : ((m : Int) == 0) = true := by rw [hm0]; rfl
          have hE := HE.out
          simp only [sgnR, hk0, if_true] at hE
          have HE2 := Lib.hid hE
          clear HT HKM hk0 hm0 HE hE
          go_wp2_with fail
          refine HP.out.mono ?_
          rintro e w1 ⟨rfl, q, rfl⟩
          go_wp2_with fail
          refine (HC.out q).mono ?_
          rintro e w2 ⟨hst2, g, cap, at2, rfl, hle2, hdr, hp2, hx⟩
          have hb2 : Blk w2 w.heap.size #[.int .i64 m] 3 := Blk.stays (hb1.drewN q) hst2 hne
          have n2 : ∀ o, (w2.alloc o).cell? ⟨w.heap.size, 0, none⟩ = some (.int .i64 m) := fun o => ((hb2.alloc o).cell 0).trans rfl
          clear n0 nf
          go_wp2_with fail
          go_ret
          have hst3 := (hst.drewN q).trans hst2
          have hal : Below w2.heap.size w2 (w2.alloc (.cells #[.func (.func g) #[] cap] 133)) := (Below.refl _ _).alloc (Nat.le_refl _) _
          rw [HE2.out]
          exact ⟨hst3.next hal, g, cap, at2, rfl, hle2, hdr, hp2.below hal, (hx.below hal).wider (New.mono hst.size hal.size) (fun k h => h.2)⟩
        · have hk0 : ¬ k = 0 := by have := HKM.out; omega
          have hm0i : ((m : Int) == 0) = false := by simp; omega
          have hkk : k = m := HKM.out.symm
          have hE := HE.out
          simp only [sgnR, hk0, if_false] at hE
          have HE2 := Lib.hid hE
          clear HE hE
          subst hkk
          clear HT HKM
          go_wp2_with fail
          refine HP.out.mono ?_
          rintro e w1 ⟨rfl, q, rfl⟩
          go_wp2_with fail
          refine (HC.out q).mono ?_
          rintro e w2 ⟨hst2, g, cap, at2, rfl, hle2, hdr, hp2, hx⟩
          have hb2 : Blk w2 w.heap.size #[.int .i64 k] 3 := Blk.stays (hb1.drewN q) hst2 hne
          have n2 : ∀ o, (w2.alloc o).cell? ⟨w.heap.size, 0, none⟩ = some (.int .i64 k) := fun o => ((hb2.alloc o).cell 0).trans rfl
          clear n0 nf
          go_wp2_with fail
          go_ret
          have hst3 := (hst.drewN q).trans hst2
          have hal : Below w2.heap.size w2 (w2.alloc (.cells #[.func (.func g) #[] cap] 133)) := (Below.refl _ _).alloc (Nat.le_refl _) _
          have hx2 := neg_ex (hx.below hal) (Blk.new w2 #[.func (.func g) #[] cap] 133) (hb2.below hal) hm16
          rw [HE2.out]
          refine ⟨hst3.next hal, _, _, at2, rfl, hle2, hdr, hp2.below hal, hx2.wider ?_ ?_⟩
          · rintro j (h1 | rfl | rfl)
            · exact New.mono hst.size hal.size j h1
            · exact ⟨hst3.size, by simp⟩
            · exact ⟨Nat.le_refl _, by have := hst2.size; simp at this ⊢; omega⟩
          · intro j hj; exact hj.2
end Go.Proofs.YtddnmocoaahlfaaGreatDoor
