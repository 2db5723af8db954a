/-
  The rows of letters and of digits that the reader of expressions takes. Condition: texts of at most 65536 bytes.
-/
import Derived.Test.YtddnmocoaahlfaaGreatDoorBase
import Derived.Lib.Strings
set_option linter.unusedVariables false
set_option linter.unusedSimpArgs false
set_option maxHeartbeats 1000000
namespace Go.Proofs.YtddnmocoaahlfaaGreatDoor
open Go.RowKit
def tk (p : UInt8 → Bool) (s : ByteArray) (i : Nat) : Nat := (taken p ((txt s).drop i)).1.length
theorem tk_step {p : UInt8 → Bool} {s : ByteArray} {i : Nat} (h : i < s.size) (hp : p (byteAt s i) = true) : tk p s i = tk p s (i + 1) + 1 := by
  unfold tk taken
  rw [drop_byte h]
  simp [hp]
theorem tk_stop {p : UInt8 → Bool} {s : ByteArray} {i : Nat} (h : i < s.size) (hp : p (byteAt s i) = false) : tk p s i = 0 := by
  unfold tk taken
  rw [drop_byte h]
  simp [hp]
theorem tk_end {p : UInt8 → Bool} {s : ByteArray} {i : Nat} (h : s.size ≤ i) : tk p s i = 0 := by
  unfold tk taken
  rw [drop_end h]; rfl
theorem tk_le {p : UInt8 → Bool} {s : ByteArray} {i : Nat} (h : i ≤ s.size) : i + tk p s i ≤ s.size := by
  have := taken_len p ((txt s).drop i)
  unfold tk
  have h2 : ((txt s).drop i).length = s.size - i := by simp
  omega
theorem takeWhile_take {α : Type} (p : α → Bool) : ∀ l : List α, l.takeWhile p = l.take (l.takeWhile p).length
  | [] => rfl
  | a :: l => by
    by_cases h : p a = true
    · rw [List.takeWhile_cons_of_pos h, List.length_cons, List.take_succ_cons, ← takeWhile_take p l]
    · rw [List.takeWhile_cons_of_neg h]; rfl
theorem takeWhile_all {α : Type} (p : α → Bool) (l : List α) : l.takeWhile p = l ↔ l.all p = true := by
  constructor
  · intro h
    rw [← h]
    exact List.all_takeWhile
  · intro h
    induction l with
    | nil => rfl
    | cons a l ih =>
      simp only [List.all_cons, Bool.and_eq_true] at h
      rw [List.takeWhile_cons_of_pos h.1, ih h.2]
theorem extract_txt (s : ByteArray) (i j : Nat) : txt (s.extract i j) = ((txt s).drop i).take (j - i) := by
  show (s.extract i j).data.toList = _
  rw [Go.Lib.extract_data]
theorem tk_txt (p : UInt8 → Bool) (s : ByteArray) (i : Nat) : txt (s.extract i (i + tk p s i)) = (taken p ((txt s).drop i)).1 := by
  rw [extract_txt, show i + tk p s i - i = tk p s i by omega]
  unfold tk taken
  simp only
  exact (takeWhile_take p _).symm
theorem tk_rest (p : UInt8 → Bool) (s : ByteArray) (i : Nat) : (txt s).drop (i + tk p s i) = (taken p ((txt s).drop i)).2 := by
  have h : (taken p ((txt s).drop i)).1 ++ (taken p ((txt s).drop i)).2 = (txt s).drop i := List.takeWhile_append_dropWhile
  rw [← List.drop_drop]
  conv => lhs; rw [← h]
  unfold tk
  rw [List.drop_left]
def tkS (p : UInt8 → Bool) (s : ByteArray) (i : Nat) : ByteArray := s.extract i (i + tk p s i)
theorem Par.setAt {w : World} {R : Nat} {s : ByteArray} {at_ op : Nat} (h : Par w R s at_ op) (m : Nat) : Par (w.setCell ⟨R, 1, none⟩ (.int .i64 m)) R s m op := Blk.set h 1 _
theorem Par.setOp {w : World} {R : Nat} {s : ByteArray} {at_ op : Nat} (h : Par w R s at_ op) (m : Nat) : Par (w.setCell ⟨R, 2, none⟩ (.int .i64 m)) R s at_ m := Blk.set h 2 _
theorem Par.drewN {w : World} {R : Nat} {s : ByteArray} {at_ op : Nat} (h : Par w R s at_ op) (n : Nat) : Par (w.drewN n) R s at_ op := h
theorem Par.below {w w' : World} {R : Nat} {s : ByteArray} {at_ op : Nat} (h : Par w R s at_ op) (b : Below w.heap.size w w') : Par w' R s at_ op := Blk.below h b
theorem Par.lt {w : World} {R : Nat} {s : ByteArray} {at_ op : Nat} (h : Par w R s at_ op) : R < w.heap.size := Blk.lt h
theorem take_letter {w : World} {R : Nat} {s : ByteArray} {at_ op : Nat} (h : Par w R s at_ op) (hs : s.size ≤ 65536) (ha : at_ ≤ s.size) :
    Calls Tryz.prog 177 #[.pointer (some ⟨R, 0, none⟩), .func (.func 178) #[] #[]] w (fun e w' => e = .returned (.string (tkS isLet s at_)) ∧ Par w' R s (at_ + tk isLet s at_) op ∧ Stays (fun k => k = R) w w') := by
  obtain ⟨c0, c1, c2, f1, f2⟩ := h.facts
  have HTE := Lib.hid (tk_le (p := isLet) ha)
  have ⟨E, HE⟩ : ∃ E, E = at_ + tk isLet s at_ := ⟨_, rfl⟩
  have hS : tkS isLet s at_ = s.extract at_ E := by rw [HE]; rfl
  rw [hS]
  rw [← HE]
  have hEs : E ≤ s.size := by rw [HE]; exact HTE.out
  have HEE := Lib.hid HE
  clear HE hS HTE
  go_enter Tryz.func177, Tryz.ntmps177
  go_wp2_with fail
  clear c0 c1 c2 f1 f2
  go_loopg [19] (s.size - at_) (fun g _ wr => ∃ m : Nat, m + g = s.size ∧ at_ ≤ m ∧ m ≤ E ∧ m + tk isLet s m = E ∧ Par wr R s m op ∧ Stays (fun k => k = R) w wr)
  case atStart => exact ⟨at_, by omega, Nat.le_refl _, by rw [HEE.out]; omega, HEE.out.symm, h, Stays.refl _ w⟩
  case round =>
    obtain ⟨m, hmg, ham, hmE, htk, hp, hst⟩ := hrel
    obtain ⟨c0, c1, c2, f1, f2⟩ := hp.facts
    have HT := Lib.hid htk
    clear htk
    by_cases hl : m < s.size
    · have HB := Lib.hid (byteAt_lt hl)
      have hcall := letter_any s[m]
      cases hd : isLet s[m] with
      | true =>
        simp only [hd] at hcall
        have HDG := Lib.hid hcall
        clear hcall
        have hmE' : m + 1 + tk isLet s (m + 1) = E := by
          have := tk_step (p := isLet) hl (by rw [HB.out]; exact hd)
          have := HT.out; omega
        have HN := Lib.hid hmE'
        clear hmE'
        go_wp2_with fail
        go_quiet ((go_at_call 178; (with_reducible exact Calls.quiet_of_same (HDG.out _))))
        go_wp2_with fail
        go_roundg (gk - 1)
        case measure => omega
        case rel => exact ⟨m + 1, by omega, by omega, by have := HN.out; omega, HN.out, (hp.drewN _).setAt (m + 1), (hst.drewN _).set (.inl rfl) _⟩
      | false =>
        simp only [hd] at hcall
        have HDG := Lib.hid hcall
        clear hcall
        have hmE' : m = E := by
          have := tk_stop (p := isLet) hl (by rw [HB.out]; exact hd)
          have := HT.out; omega
        subst hmE'
        have hle1 : (at_ : Int) ≤ (m : Int) := by omega
        have hle2 : (m : Int) ≤ (s.size : Int) := by omega
        go_wp2_with fail
        go_quiet ((go_at_call 178; (with_reducible exact Calls.quiet_of_same (HDG.out _))))
        go_wp2_with fail
        go_quiet (fail)
        go_wp2_with fail
        go_ret
        exact ⟨rfl, hp, ((hst.drewN _).drewN _)⟩
    · have hmE' : m = E := by
        have := tk_end (p := isLet) (s := s) (i := m) (by omega)
        have := HT.out; omega
      subst hmE'
      have hle1 : (at_ : Int) ≤ (m : Int) := by omega
      have hle2 : (m : Int) ≤ (s.size : Int) := by omega
      have hd : decide ((m : Int) < (s.size : Int)) = false := decide_eq_false (by omega)
      go_wp2_with fail
      go_quiet (fail)
      go_wp2_with fail
      go_quiet (fail)
      go_wp2_with fail
      go_ret
      exact ⟨rfl, hp, ((hst.drewN _).drewN _)⟩
theorem take_digit {w : World} {R : Nat} {s : ByteArray} {at_ op : Nat} (h : Par w R s at_ op) (hs : s.size ≤ 65536) (ha : at_ ≤ s.size) :
    Calls Tryz.prog 177 #[.pointer (some ⟨R, 0, none⟩), .func (.func 179) #[] #[]] w (fun e w' => e = .returned (.string (tkS isDig s at_)) ∧ Par w' R s (at_ + tk isDig s at_) op ∧ Stays (fun k => k = R) w w') := by
  obtain ⟨c0, c1, c2, f1, f2⟩ := h.facts
  have HTE := Lib.hid (tk_le (p := isDig) ha)
  have ⟨E, HE⟩ : ∃ E, E = at_ + tk isDig s at_ := ⟨_, rfl⟩
  have hS : tkS isDig s at_ = s.extract at_ E := by rw [HE]; rfl
  rw [hS]
  rw [← HE]
  have hEs : E ≤ s.size := by rw [HE]; exact HTE.out
  have HEE := Lib.hid HE
  clear HE hS HTE
  go_enter Tryz.func177, Tryz.ntmps177
  go_wp2_with fail
  clear c0 c1 c2 f1 f2
  go_loopg [19] (s.size - at_) (fun g _ wr => ∃ m : Nat, m + g = s.size ∧ at_ ≤ m ∧ m ≤ E ∧ m + tk isDig s m = E ∧ Par wr R s m op ∧ Stays (fun k => k = R) w wr)
  case atStart => exact ⟨at_, by omega, Nat.le_refl _, by rw [HEE.out]; omega, HEE.out.symm, h, Stays.refl _ w⟩
  case round =>
    obtain ⟨m, hmg, ham, hmE, htk, hp, hst⟩ := hrel
    obtain ⟨c0, c1, c2, f1, f2⟩ := hp.facts
    have HT := Lib.hid htk
    clear htk
    by_cases hl : m < s.size
    · have HB := Lib.hid (byteAt_lt hl)
      have hcall := digit_any s[m]
      cases hd : isDig s[m] with
      | true =>
        simp only [hd] at hcall
        have HDG := Lib.hid hcall
        clear hcall
        have hmE' : m + 1 + tk isDig s (m + 1) = E := by
          have := tk_step (p := isDig) hl (by rw [HB.out]; exact hd)
          have := HT.out; omega
        have HN := Lib.hid hmE'
        clear hmE'
        go_wp2_with fail
        go_quiet ((go_at_call 179; (with_reducible exact Calls.quiet_of_same (HDG.out _))))
        go_wp2_with fail
        go_roundg (gk - 1)
        case measure => omega
        case rel => exact ⟨m + 1, by omega, by omega, by have := HN.out; omega, HN.out, (hp.drewN _).setAt (m + 1), (hst.drewN _).set (.inl rfl) _⟩
      | false =>
        simp only [hd] at hcall
        have HDG := Lib.hid hcall
        clear hcall
        have hmE' : m = E := by
          have := tk_stop (p := isDig) hl (by rw [HB.out]; exact hd)
          have := HT.out; omega
        subst hmE'
        have hle1 : (at_ : Int) ≤ (m : Int) := by omega
        have hle2 : (m : Int) ≤ (s.size : Int) := by omega
        go_wp2_with fail
        go_quiet ((go_at_call 179; (with_reducible exact Calls.quiet_of_same (HDG.out _))))
        go_wp2_with fail
        go_quiet (fail)
        go_wp2_with fail
        go_ret
        exact ⟨rfl, hp, ((hst.drewN _).drewN _)⟩
    · have hmE' : m = E := by
        have := tk_end (p := isDig) (s := s) (i := m) (by omega)
        have := HT.out; omega
      subst hmE'
      have hle1 : (at_ : Int) ≤ (m : Int) := by omega
      have hle2 : (m : Int) ≤ (s.size : Int) := by omega
      have hd : decide ((m : Int) < (s.size : Int)) = false := decide_eq_false (by omega)
      go_wp2_with fail
      go_quiet (fail)
      go_wp2_with fail
      go_quiet (fail)
      go_wp2_with fail
      go_ret
      exact ⟨rfl, hp, ((hst.drewN _).drewN _)⟩
theorem tkS_size {p : UInt8 → Bool} {s : ByteArray} {i : Nat} (h : i ≤ s.size) : (tkS p s i).size = tk p s i := by
  have h1 := congrArg List.length (tk_txt p s i)
  have h2 : (txt (tkS p s i)).length = (tkS p s i).size := by simp
  unfold tkS at h2 ⊢
  rw [← h2, h1]
  rfl
theorem tkS_first {p : UInt8 → Bool} {s : ByteArray} {i : Nat} (h : i < s.size) (hp : p (byteAt s i) = true) (h0 : 0 < (tkS p s i).size) : (tkS p s i)[0] = byteAt s i := by
  rw [← byteAt_lt h0]
  unfold byteAt tkS
  rw [tk_txt]
  unfold taken
  rw [drop_byte h]
  simp [hp]
theorem numeral_ok {w : World} {R : Nat} {s : ByteArray} {at_ op : Nat} (h : Par w R s at_ op) (hs : s.size ≤ 65536) (ha : at_ < s.size) (hd : isDig (byteAt s at_) = true) (hok : ¬ (byteAt s at_ = 48 ∧ 1 < tk isDig s at_)) :
    Calls Tryz.prog 180 #[.pointer (some ⟨R, 0, none⟩)] w (fun e w' => e = .returned (.string (tkS isDig s at_)) ∧ Par w' R s (at_ + tk isDig s at_) op ∧ Stays (fun k => k = R) w w') := by
  have hz : (tkS isDig s at_).size = tk isDig s at_ := tkS_size (by omega)
  have hpos : 0 < (tkS isDig s at_).size := by rw [hz, tk_step ha hd]; omega
  have hfst := tkS_first ha hd hpos
  have hle := tk_le (p := isDig) (Nat.le_of_lt ha)
  have HC := Lib.hid (take_digit h hs (Nat.le_of_lt ha))
  obtain ⟨t, ht⟩ : ∃ t, t = tkS isDig s at_ := ⟨_, rfl⟩
  rw [← ht] at hz hpos HC ⊢
  have hfst' : t[0] = byteAt s at_ := by subst ht; exact hfst
  have HZ := Lib.hid hz
  clear hz hfst ht
  have htl : t.size ≤ 65536 := by have := HZ.out; omega
  by_cases h48 : byteAt s at_ = 48
  · have hb : ((t[0].toNat : Int) == 48) = true := by rw [hfst', h48]; rfl
    have hlen : decide ((1 : Int) < (t.size : Int)) = false := by
      have := HZ.out
      exact decide_eq_false fun hc => hok ⟨h48, by omega⟩
    have HO := Lib.hid hok
    clear hok h48 hd hfst'
    go_enter Tryz.func180, Tryz.ntmps180
    go_wp2_with (go_at_call 177; (with_reducible refine HC.out.mono ?_); rintro e w' ⟨rfl, hp, hst⟩)
    go_ret
    exact ⟨rfl, hp, hst⟩
  · have hb : ((t[0].toNat : Int) == 48) = false := by
      rw [hfst']
      have : (byteAt s at_).toNat ≠ 48 := fun e => h48 (UInt8.toNat_inj.1 e)
      simp; omega
    clear hok h48 hd hfst'
    go_enter Tryz.func180, Tryz.ntmps180
    go_wp2_with (go_at_call 177; (with_reducible refine HC.out.mono ?_); rintro e w' ⟨rfl, hp, hst⟩)
    go_ret
    exact ⟨rfl, hp, hst⟩
theorem numeral_bad {w : World} {R : Nat} {s : ByteArray} {at_ op : Nat} (h : Par w R s at_ op) (hs : s.size ≤ 65536) (ha : at_ < s.size) (hd : isDig (byteAt s at_) = true) (h48 : byteAt s at_ = 48) (hlen1 : 1 < tk isDig s at_) :
    Calls Tryz.prog 180 #[.pointer (some ⟨R, 0, none⟩)] w (fun e w' => e = .panicked [Tr 4] ∧ Stays (fun k => k = R) w w') := by
  have hz : (tkS isDig s at_).size = tk isDig s at_ := tkS_size (by omega)
  have hpos : 0 < (tkS isDig s at_).size := by rw [hz, tk_step ha hd]; omega
  have hfst := tkS_first ha hd hpos
  have hle := tk_le (p := isDig) (Nat.le_of_lt ha)
  have HC := Lib.hid (take_digit h hs (Nat.le_of_lt ha))
  obtain ⟨t, ht⟩ : ∃ t, t = tkS isDig s at_ := ⟨_, rfl⟩
  rw [← ht] at hz hpos HC
  have hfst' : t[0] = byteAt s at_ := by subst ht; exact hfst
  have HZ := Lib.hid hz
  clear hz hfst ht
  have htl : t.size ≤ 65536 := by have := HZ.out; omega
  have hb : ((t[0].toNat : Int) == 48) = true := by rw [hfst', h48]; rfl
  have hlen : decide ((1 : Int) < (t.size : Int)) = true := by
    have := HZ.out
    exact decide_eq_true (by omega)
  clear h48 hd hfst'
  go_enter Tryz.func180, Tryz.ntmps180
  go_wp2_with (first | (go_at_call 177; (with_reducible refine HC.out.mono ?_); rintro e w' ⟨rfl, hp, hst⟩) | (go_at_call 105; refine (fail_any 4 _).mono ?_; rintro e w' ⟨rfl, rfl⟩))
  exact ⟨rfl, rfl, hst⟩
theorem isName_any (s : ByteArray) (hs : s.size ≤ 65536) (w : World) : Calls Tryz.prog 160 #[.string s] w (RetV w (.bool (isNameL (txt s)))) := by
  have hz : (txt s).length = s.size := by simp
  by_cases h1 : 1 ≤ s.size
  · by_cases h2 : s.size ≤ 16
    · have g1 : (1 : Int) ≤ (s.size : Int) := by omega
      have g2 : (s.size : Int) ≤ 16 := by omega
      have hC : ∀ (W : World) (n : Nat), Par W n s 0 0 → Hid (Calls Tryz.prog 177 #[.pointer (some ⟨n, 0, none⟩), .func (.func 178) #[] #[]] W (fun e w' => e = .returned (.string (tkS isLet s 0)) ∧ Par w' n s (0 + tk isLet s 0) 0 ∧ Stays (fun k => k = n) W w')) := fun W n hp => Lib.hid (take_letter hp hs (Nat.zero_le _))
      have hP : ∀ w : World, Par (w.alloc (.cells #[.string s, .int .i64 0, .int .i64 0] 179)) w.heap.size s 0 0 := fun w => Blk.new _ _ _
      have hval : isNameL (txt s) = (txt s).all isLet := by
        unfold isNameL
        rw [hz]
        simp [h1, h2]
      obtain ⟨b, hb⟩ : ∃ b, b = isNameL (txt s) := ⟨_, rfl⟩
      rw [← hb]
      rw [hval] at hb
      obtain ⟨t, ht⟩ : ∃ t, t = tkS isLet s 0 := ⟨_, rfl⟩
      rw [← ht] at hC
      have htt : txt t = (txt s).takeWhile isLet := by
        rw [ht]; unfold tkS; rw [tk_txt]; rfl
      have hts : (txt t = txt s) ↔ b = true := by
        rw [htt, hb]; exact takeWhile_all _ _
      clear ht hval hb
      have HT := Lib.hid htt
      clear htt
      cases b with
      | true =>
        have heq : (t.toList == s.toList) = true := by simpa [ByteArray.toList_eq] using hts.2 rfl
        clear hts
        go_enter Tryz.func160, Tryz.ntmps160
        go_wp2_with fail
        refine (hC _ _ (hP w)).out.mono ?_
        rintro e w1 ⟨rfl, hp, hst⟩
        go_wp2_with fail
        go_ret
        exact ⟨rfl, ((Below.refl _ w).alloc (Nat.le_refl _) _).trans (hst.below (by simp) (fun k hk e => by omega))⟩
      | false =>
        have heq : (t.toList == s.toList) = false := by
          cases h : (t.toList == s.toList) with
          | false => rfl
          | true =>
            have := hts.1 (by simpa [ByteArray.toList_eq] using h)
            cases this
        clear hts
        go_enter Tryz.func160, Tryz.ntmps160
        go_wp2_with fail
        refine (hC _ _ (hP w)).out.mono ?_
        rintro e w1 ⟨rfl, hp, hst⟩
        go_wp2_with fail
        go_ret
        exact ⟨rfl, ((Below.refl _ w).alloc (Nat.le_refl _) _).trans (hst.below (by simp) (fun k hk e => by omega))⟩
    · have g1 : (1 : Int) ≤ (s.size : Int) := by omega
      have g2 : ¬ (s.size : Int) ≤ 16 := by omega
      have hval : isNameL (txt s) = false := by
        unfold isNameL
        rw [hz]
        simp [h2]
      rw [hval]
      go_enter Tryz.func160, Tryz.ntmps160
      go_wp2_with fail
      go_ret
      exact ⟨rfl, (Below.refl _ w).alloc (Nat.le_refl _) _⟩
  · have g1 : ¬ (1 : Int) ≤ (s.size : Int) := by omega
    have hval : isNameL (txt s) = false := by
      unfold isNameL
      rw [hz]
      simp [h1]
    rw [hval]
    go_enter Tryz.func160, Tryz.ntmps160
    go_wp2_with fail
    go_ret
    exact ⟨rfl, (Below.refl _ w).alloc (Nat.le_refl _) _⟩
end Go.Proofs.YtddnmocoaahlfaaGreatDoor
