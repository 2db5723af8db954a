/-
  The contract of the reader's prim. Condition: texts of at most 65536 bytes; the variable of the range error holds an error or none.
-/
import Derived.Test.YtddnmocoaahlfaaGreatDoorY37
set_option linter.unusedVariables false
set_option linter.unusedSimpArgs false
set_option maxHeartbeats 2000000
namespace Go.Proofs.YtddnmocoaahlfaaGreatDoor
open Go.RowKit
def New (w w' : World) (k : Nat) : Prop := w.heap.size ≤ k ∧ k < w'.heap.size
def Rd (w : World) (R : Nat) (s : ByteArray) (op : Nat) (r : Option (Ex × List UInt8)) (e : Ending) (w' : World) : Prop :=
  Stays (fun k => k = R) w w' ∧ match r with
  | none => e = .panicked [Tr 4]
  | some (x, t) => ∃ g cap at', e = .returned (.func (.func g) #[] cap) ∧ at' ≤ s.size ∧ (txt s).drop at' = t ∧ Par w' R s at' op ∧ ExC (New w w') w' g cap x
def PrimC (op : Nat) (f : Reads) : Prop := ∀ w R s at_, Par w R s at_ op → s.size ≤ 65536 → at_ ≤ s.size → ErrR w → Calls Tryz.prog 162 #[.pointer (some ⟨R, 0, none⟩)] w (Rd w R s op (f ((txt s).drop at_)))
def ExprC (op : Nat) (f : Reads) : Prop := ∀ w R L s at_, Par w R s at_ op → s.size ≤ 65536 → at_ ≤ s.size → ErrR w → Lev w L →
  Calls Tryz.prog 111 #[.pointer (some ⟨R, 0, none⟩), .slice (some ⟨L, 0, none⟩) 5 5] w (Rd w R s op (f ((txt s).drop at_)))
theorem Lev.ne {w : World} {R L : Nat} {s : ByteArray} {at_ op : Nat} (h : Lev w L) (hp : Par w R s at_ op) : L ≠ R := by
  rintro rfl
  have h1 := (Blk.cell h 1).symm.trans (Blk.cell hp 1)
  cases h1
theorem Lev.stays {M : Nat → Prop} {w w' : World} {L : Nat} (h : Lev w L) (b : Stays M w w') (hm : ¬ M L) : Lev w' L := Blk.stays h b hm
theorem ne40 {c : UInt8} (h : c ≠ 40) : ((c.toNat : Int) == 40) = false := by
  have : c.toNat ≠ 40 := fun e => h (UInt8.toNat_inj.1 e)
  simp; omega
set_option maxHeartbeats 1000000 in
theorem prim_other {w : World} {R : Nat} {s : ByteArray} {at_ op : Nat} (h : Par w R s at_ op) (hs : s.size ≤ 65536) {c : UInt8} (hc : byteAt s at_ = c) (hd : isDig c = false) (hl : isLet c = false) (hn : ¬ (c = 40 ∧ op < 16)) :
    Calls Tryz.prog 162 #[.pointer (some ⟨R, 0, none⟩)] w (fun e w' => e = .panicked [Tr 4] ∧ Stays (fun k => k = R) w w') := by
  have HP := Lib.hid (peek_any h hs)
  rw [hc] at HP
  have h1 := digit_any c; simp only [hd] at h1; have HD := Lib.hid h1
  have h2 := letter_any c; simp only [hl] at h2; have HL := Lib.hid h2
  clear h1 h2
  by_cases h40 : c = 40
  · have hop : decide ((op : Int) < 16) = false := decide_eq_false fun hc => hn ⟨h40, by omega⟩
    have hb : ((c.toNat : Int) == 40) = true := by rw [h40]; rfl
    clear hn h40 hd hl hc
    go_enter Tryz.func162, Tryz.ntmps162
    go_wp2_with fail
    refine HP.out.mono ?_
    rintro e w1 ⟨rfl, q, rfl⟩
    have hp1 := h.drewN q
    obtain ⟨c0, c1, c2, f1, f2⟩ := h.facts
    go_wp2_with (first | (go_at_call 179; (with_reducible refine (HD.out _).mono ?_); rintro e w' ⟨rfl, rfl⟩) | (go_at_call 178; (with_reducible refine (HL.out _).mono ?_); rintro e w' ⟨rfl, rfl⟩) | (go_at_call 105; refine (fail_any 4 _).mono ?_; rintro e w' ⟨rfl, rfl⟩))
    exact ⟨rfl, rfl, (Stays.refl _ _).drewN _⟩
  · have hb := ne40 h40
    clear hn h40 hd hl hc
    go_enter Tryz.func162, Tryz.ntmps162
    go_wp2_with fail
    refine HP.out.mono ?_
    rintro e w1 ⟨rfl, q, rfl⟩
    go_wp2_with (first | (go_at_call 179; (with_reducible refine (HD.out _).mono ?_); rintro e w' ⟨rfl, rfl⟩) | (go_at_call 178; (with_reducible refine (HL.out _).mono ?_); rintro e w' ⟨rfl, rfl⟩) | (go_at_call 105; refine (fail_any 4 _).mono ?_; rintro e w' ⟨rfl, rfl⟩))
    exact ⟨rfl, rfl, (Stays.refl _ _).drewN _⟩
set_option maxHeartbeats 1000000 in
theorem prim_zero {w : World} {R : Nat} {s : ByteArray} {at_ op : Nat} (h : Par w R s at_ op) (hs : s.size ≤ 65536) (ha : at_ < s.size) (hd : isDig (byteAt s at_) = true) (h48 : byteAt s at_ = 48) (hlen : 1 < tk isDig s at_) :
    Calls Tryz.prog 162 #[.pointer (some ⟨R, 0, none⟩)] w (fun e w' => e = .panicked [Tr 4] ∧ Stays (fun k => k = R) w w') := by
  have HP := Lib.hid (peek_any h hs)
  have h1 := digit_any (byteAt s at_); simp only [hd] at h1; have HD := Lib.hid h1
  have HN := Lib.hid (fun q => numeral_bad (h.drewN q) hs ha hd h48 hlen)
  clear h1 hd h48 hlen
  go_enter Tryz.func162, Tryz.ntmps162
  go_wp2_with fail
  refine HP.out.mono ?_
  rintro e w1 ⟨rfl, q, rfl⟩
  go_wp2_with (first | (go_at_call 179; (with_reducible refine (HD.out _).mono ?_); rintro e w' ⟨rfl, rfl⟩))
  refine (HN.out q).mono ?_
  rintro e w2 ⟨rfl, hst⟩
  exact ⟨rfl, rfl, ((Stays.refl _ _).drewN _).trans hst⟩
theorem tkS_nonempty {p : UInt8 → Bool} {s : ByteArray} {i : Nat} (h : i < s.size) (hp : p (byteAt s i) = true) : txt (tkS p s i) ≠ [] := by
  unfold tkS
  rw [tk_txt]
  unfold taken
  rw [drop_byte h]
  simp [hp]
theorem tkS_all (p : UInt8 → Bool) (s : ByteArray) (i : Nat) : ∀ c ∈ txt (tkS p s i), p c = true := by
  unfold tkS
  rw [tk_txt]
  unfold taken
  exact List.all_eq_true.1 List.all_takeWhile
theorem tkS_small {p : UInt8 → Bool} {s : ByteArray} {i : Nat} (hs : s.size ≤ 65536) (h : i ≤ s.size) : (tkS p s i).size ≤ 65536 := by
  rw [tkS_size h]
  have := tk_le (p := p) h; omega
set_option maxHeartbeats 1000000 in
theorem prim_over {w : World} {R : Nat} {s : ByteArray} {at_ op : Nat} (h : Par w R s at_ op) (hs : s.size ≤ 65536) (he : ErrR w) (ha : at_ < s.size) (hd : isDig (byteAt s at_) = true) (hok : ¬ (byteAt s at_ = 48 ∧ 1 < tk isDig s at_))
    (hbig : numOf (txt (tkS isDig s at_)) > 9007199254740992) :
    Calls Tryz.prog 162 #[.pointer (some ⟨R, 0, none⟩)] w (fun e w' => e = .panicked [Tr 4] ∧ Stays (fun k => k = R) w w') := by
  have HP := Lib.hid (peek_any h hs)
  have h1 := digit_any (byteAt s at_); simp only [hd] at h1; have HD := Lib.hid h1
  have HN := Lib.hid (fun q => numeral_ok (h.drewN q) hs ha hd hok)
  have hne := tkS_nonempty ha hd
  have hall := tkS_all isDig s at_
  have hsm : (tkS isDig s at_).size ≤ 65536 := tkS_small hs (by omega)
  have h6 := he.ne h
  obtain ⟨t, ht⟩ : ∃ t, t = tkS isDig s at_ := ⟨_, rfl⟩
  rw [← ht] at HN hne hall hsm hbig
  by_cases hlt : numOf (txt t) < 9223372036854775808
  · obtain ⟨n, hn⟩ : ∃ n, numOf (txt t) = n := ⟨_, rfl⟩
    have HA := Lib.hid (fun w => atoi_ok hsm hne hall hn (by omega) w)
    have hgt : (9007199254740992 : Int) < (n : Int) := by omega
    clear h1 hd hok hne hall hbig hlt hn ht
    have hp := hmakef
    go_enter Tryz.func162, Tryz.ntmps162
    go_wp2_with fail
    refine HP.out.mono ?_
    rintro e w1 ⟨rfl, q, rfl⟩
    go_wp2_with (first | (go_at_call 179; (with_reducible refine (HD.out _).mono ?_); rintro e w' ⟨rfl, rfl⟩))
    refine (HN.out q).mono ?_
    rintro e w2 ⟨rfl, hp2, hst⟩
    go_wp2_with (first | (go_at_call 122; (with_reducible refine (HA.out _).mono ?_); rintro e w' ⟨rfl, b3⟩))
    refine (fail_any 4 _).mono ?_
    rintro e w4 ⟨rfl, rfl⟩
    exact ⟨rfl, rfl, ((((Stays.refl _ _).drewN _).trans hst).next b3).alloc _⟩
  · have HA := Lib.hid (fun (w : World) (he : ErrR w) => atoi_over hsm hne hall hlt he)
    clear h1 hd hok hne hall hbig hlt ht
    have hp := hmakef
    go_enter Tryz.func162, Tryz.ntmps162
    go_wp2_with fail
    refine HP.out.mono ?_
    rintro e w1 ⟨rfl, q, rfl⟩
    go_wp2_with (first | (go_at_call 179; (with_reducible refine (HD.out _).mono ?_); rintro e w' ⟨rfl, rfl⟩))
    refine (HN.out q).mono ?_
    rintro e w2 ⟨rfl, hp2, hst⟩
    have he2 : ErrR w2 := ErrR.stays (w := w) he (((Stays.refl (fun k => k = R) w).drewN q).trans hst) (fun e => h6 e.symm)
    go_wp2_with fail
    refine (HA.out w2 he2).mono ?_
    rintro e w3 ⟨v, n, rfl, b3⟩
    go_wp2_with fail
    refine (fail_any 4 _).mono ?_
    rintro e w4 ⟨rfl, rfl⟩
    exact ⟨rfl, rfl, ((((Stays.refl _ _).drewN _).trans hst).next b3).alloc _⟩
set_option maxHeartbeats 1000000 in
theorem prim_num {w : World} {R : Nat} {s : ByteArray} {at_ op n : Nat} (h : Par w R s at_ op) (hs : s.size ≤ 65536) (ha : at_ < s.size) (hd : isDig (byteAt s at_) = true) (hok : ¬ (byteAt s at_ = 48 ∧ 1 < tk isDig s at_))
    (hn : numOf (txt (tkS isDig s at_)) = n) (hle : n ≤ 9007199254740992) :
    Calls Tryz.prog 162 #[.pointer (some ⟨R, 0, none⟩)] w (Rd w R s op (some (.num n, (txt s).drop (at_ + tk isDig s at_)))) := by
  have HP := Lib.hid (peek_any h hs)
  have h1 := digit_any (byteAt s at_); simp only [hd] at h1; have HD := Lib.hid h1
  have HN := Lib.hid (fun q => numeral_ok (h.drewN q) hs ha hd hok)
  have hne := tkS_nonempty ha hd
  have hall := tkS_all isDig s at_
  have hsm : (tkS isDig s at_).size ≤ 65536 := tkS_small hs (by omega)
  have htk := tk_le (p := isDig) (Nat.le_of_lt ha)
  obtain ⟨E, hE⟩ : ∃ E, E = at_ + tk isDig s at_ := ⟨_, rfl⟩
  rw [← hE] at HN htk ⊢
  obtain ⟨t, ht⟩ : ∃ t, t = tkS isDig s at_ := ⟨_, rfl⟩
  rw [← ht] at HN hne hall hsm hn
  have HA := Lib.hid (fun w => atoi_ok hsm hne hall hn (by omega) w)
  have hgt : ¬ (9007199254740992 : Int) < (n : Int) := by omega
  clear h1 hd hok hne hall hn ht hE
  have hp := hmakef
  go_enter Tryz.func162, Tryz.ntmps162
  go_wp2_with fail
  refine HP.out.mono ?_
  rintro e w1 ⟨rfl, q, rfl⟩
  go_wp2_with (first | (go_at_call 179; (with_reducible refine (HD.out _).mono ?_); rintro e w' ⟨rfl, rfl⟩))
  refine (HN.out q).mono ?_
  rintro e w2 ⟨rfl, hp2, hst⟩
  go_wp2_with (first | (go_at_call 122; (with_reducible refine (HA.out _).mono ?_); rintro e w' ⟨rfl, b3⟩))
  go_ret
  have hst3 := ((((Stays.refl (fun k => k = R) w).drewN q).trans hst).next b3)
  have hx := num_ex (X := w'.heap.size) (n := n) (Blk.new w' _ _) hle
  refine ⟨hst3.alloc _, _, _, E, rfl, htk, rfl, (hp2.below b3).below ((Below.refl _ _).alloc (Nat.le_refl _) _), hx.wider ?_ ?_⟩
  · rintro k rfl
    exact ⟨hst3.size, by simp⟩
  · intro k hk; exact hk.2
theorem let_not_dig {c : UInt8} (h : isLet c = true) : isDig c = false := by
  unfold isLet isDig at *
  simp only [Bool.and_eq_true, decide_eq_true_eq, UInt8.le_iff_toNat_le] at h
  have h1 : (97 : UInt8).toNat = 97 := rfl
  have h2 : (57 : UInt8).toNat = 57 := rfl
  have : ¬ c ≤ 57 := by rw [UInt8.le_iff_toNat_le]; omega
  simp [this]
set_option maxHeartbeats 1000000 in
theorem prim_long {w : World} {R : Nat} {s : ByteArray} {at_ op : Nat} (h : Par w R s at_ op) (hs : s.size ≤ 65536) (ha : at_ < s.size) (hl : isLet (byteAt s at_) = true) (hlen : ¬ tk isLet s at_ ≤ 16) :
    Calls Tryz.prog 162 #[.pointer (some ⟨R, 0, none⟩)] w (fun e w' => e = .panicked [Tr 4] ∧ Stays (fun k => k = R) w w') := by
  have HP := Lib.hid (peek_any h hs)
  have h1 := digit_any (byteAt s at_); simp only [let_not_dig hl] at h1; have HD := Lib.hid h1
  have h2 := letter_any (byteAt s at_); simp only [hl] at h2; have HL := Lib.hid h2
  have HT := Lib.hid (fun q => take_letter (h.drewN q) hs (Nat.le_of_lt ha))
  have hsm : (tkS isLet s at_).size ≤ 65536 := tkS_small hs (by omega)
  have hsz : (tkS isLet s at_).size = tk isLet s at_ := tkS_size (by omega)
  have hnm : isNameL (txt (tkS isLet s at_)) = false := by
    have hz : (txt (tkS isLet s at_)).length = tk isLet s at_ := by simpa using hsz
    unfold isNameL
    rw [hz]
    simp [hlen]
  have h3 := isName_any (tkS isLet s at_) hsm
  simp only [hnm] at h3
  have HN := Lib.hid h3
  clear h1 h2 h3 hnm hl hlen hsz
  go_enter Tryz.func162, Tryz.ntmps162
  go_wp2_with fail
  refine HP.out.mono ?_
  rintro e w1 ⟨rfl, q, rfl⟩
  go_wp2_with (first | (go_at_call 179; (with_reducible refine (HD.out _).mono ?_); rintro e w' ⟨rfl, rfl⟩) | (go_at_call 178; (with_reducible refine (HL.out _).mono ?_); rintro e w' ⟨rfl, rfl⟩))
  refine (HT.out q).mono ?_
  rintro e w2 ⟨rfl, hp2, hst⟩
  go_wp2_with fail
  refine (HN.out _).mono ?_
  rintro e w3 ⟨rfl, b3⟩
  go_wp2_with fail
  refine (fail_any 4 _).mono ?_
  rintro e w4 ⟨rfl, rfl⟩
  exact ⟨rfl, rfl, ((((Stays.refl _ _).drewN _).trans hst).alloc _).next b3⟩
set_option maxHeartbeats 1000000 in
theorem prim_name {w : World} {R : Nat} {s : ByteArray} {at_ op : Nat} (h : Par w R s at_ op) (hs : s.size ≤ 65536) (ha : at_ < s.size) (hl : isLet (byteAt s at_) = true) (hlen : tk isLet s at_ ≤ 16) :
    Calls Tryz.prog 162 #[.pointer (some ⟨R, 0, none⟩)] w (Rd w R s op (some (.name (txt (tkS isLet s at_)), (txt s).drop (at_ + tk isLet s at_)))) := by
  have HP := Lib.hid (peek_any h hs)
  have h1 := digit_any (byteAt s at_); simp only [let_not_dig hl] at h1; have HD := Lib.hid h1
  have h2 := letter_any (byteAt s at_); simp only [hl] at h2; have HL := Lib.hid h2
  have HT := Lib.hid (fun q => take_letter (h.drewN q) hs (Nat.le_of_lt ha))
  have hsm : (tkS isLet s at_).size ≤ 65536 := tkS_small hs (by omega)
  have hsz : (tkS isLet s at_).size = tk isLet s at_ := tkS_size (by omega)
  have htk := tk_le (p := isLet) (Nat.le_of_lt ha)
  have hnm : isNameL (txt (tkS isLet s at_)) = true := by
    have hz : (txt (tkS isLet s at_)).length = tk isLet s at_ := by simpa using hsz
    have hpos := tk_step (p := isLet) ha hl
    have hall := List.all_eq_true.2 (tkS_all isLet s at_)
    unfold isNameL
    rw [hz, hall]
    simp; omega
  have h3 := isName_any (tkS isLet s at_) hsm
  simp only [hnm] at h3
  have HN := Lib.hid h3
  obtain ⟨E, hE⟩ : ∃ E, E = at_ + tk isLet s at_ := ⟨_, rfl⟩
  rw [← hE] at HT htk ⊢
  obtain ⟨t, ht⟩ : ∃ t, t = tkS isLet s at_ := ⟨_, rfl⟩
  rw [← ht] at HT HN hsm ⊢
  clear h1 h2 h3 hnm hl hlen hsz hE ht
  have hp := hmakef
  go_enter Tryz.func162, Tryz.ntmps162
  go_wp2_with fail
  refine HP.out.mono ?_
  rintro e w1 ⟨rfl, q, rfl⟩
  go_wp2_with (first | (go_at_call 179; (with_reducible refine (HD.out _).mono ?_); rintro e w' ⟨rfl, rfl⟩) | (go_at_call 178; (with_reducible refine (HL.out _).mono ?_); rintro e w' ⟨rfl, rfl⟩))
  refine (HT.out q).mono ?_
  rintro e w2 ⟨rfl, hp2, hst⟩
  have hbk : Blk (w2.alloc (.cells #[.string t] 9)) w2.heap.size #[.string t] 9 := Blk.new _ _ _
  go_wp2_with fail
  refine (HN.out _).mono ?_
  rintro e w3 ⟨rfl, b3⟩
  go_wp2_with fail
  go_ret
  have hst3 := (((Stays.refl (fun k => k = R) w).drewN q).trans hst)
  have hb3 := hbk.below b3
  have hx := name_ex hb3 hsm
  refine ⟨(hst3.alloc _).next b3, _, _, E, rfl, htk, rfl, (hp2.below ((Below.refl _ _).alloc (Nat.le_refl _) _)).below b3, hx.wider ?_ ?_⟩
  · rintro k rfl
    exact ⟨hst3.size, hb3.lt⟩
  · intro k hk; exact hk.2
theorem New.mono {a b w w' : World} (h1 : a.heap.size ≤ b.heap.size) (h2 : w.heap.size ≤ w'.heap.size) (k : Nat) (h : New b w k) : New a w' k := ⟨Nat.le_trans h1 h.1, Nat.lt_of_lt_of_le h.2 h2⟩
theorem lev_new (w : World) (q : Nat) (a b : Addr) (u v : Value) : Lev ((((w.drewN q).setCell a u).setCell b v).alloc (.cells levCells 206)) w.heap.size := by
  have h := Blk.new (((w.drewN q).setCell a u).setCell b v) levCells 206
  have e : (((w.drewN q).setCell a u).setCell b v).heap.size = w.heap.size := by
    unfold World.setCell
    simp
  rw [e] at h
  exact h
theorem prim_open1 {w : World} {R : Nat} {s : ByteArray} {at_ op : Nat} {f : Reads} (h : Par w R s at_ op) (hs : s.size ≤ 65536) (he : ErrR w) (ha : at_ < s.size) (hc : byteAt s at_ = 40) (hop : op < 16) (hf : ExprC (op + 1) f)
    (hr : f ((txt s).drop (at_ + 1)) = none) :
    Calls Tryz.prog 162 #[.pointer (some ⟨R, 0, none⟩)] w (fun e w' => e = .panicked [Tr 4] ∧ Stays (fun k => k = R) w w') := by
  have HP := Lib.hid (peek_any h hs)
  obtain ⟨c, hcc⟩ : ∃ c, c = byteAt s at_ := ⟨_, rfl⟩
  rw [← hcc] at HP hc
  have h1 := digit_any c; simp only [show isDig c = false by rw [hc]; rfl] at h1; have HD := Lib.hid h1
  have h2 := letter_any c; simp only [show isLet c = false by rw [hc]; rfl] at h2; have HL := Lib.hid h2
  have hb : ((c.toNat : Int) == 40) = true := by rw [hc]; rfl
  clear hcc
  have hop' : (op : Int) < 16 := by omega
  have h6 := he.ne h
  clear h1 h2 hc
  have HR := Lib.hid hr
  clear hr
  obtain ⟨c0, c1, c2, f1, f2⟩ := h.facts
  go_enter Tryz.func162, Tryz.ntmps162
  go_wp2_with fail
  refine HP.out.mono ?_
  rintro e w1 ⟨rfl, q, rfl⟩
  go_wp2_with (first | (go_at_call 179; (with_reducible refine (HD.out _).mono ?_); rintro e w' ⟨rfl, rfl⟩) | (go_at_call 178; (with_reducible refine (HL.out _).mono ?_); rintro e w' ⟨rfl, rfl⟩) | (go_at_call 112; refine (levels_any _).mono ?_; rintro e w' ⟨rfl, rfl⟩))
  clear c0 c1 c2 f1 f2
  have hp0 := (((h.drewN q).setAt (at_ + 1)).setOp (op + 1)).below ((Below.refl _ _).alloc (Nat.le_refl _) (Obj.cells levCells 206))
  have hst0 := ((((Stays.refl (fun k => k = R) w).drewN q).set (p := ⟨R, 1, none⟩) (.inl rfl) (.int .i64 (at_ + 1 : Nat))).set (p := ⟨R, 2, none⟩) (.inl rfl) (.int .i64 (op + 1 : Nat))).alloc (Obj.cells levCells 206)
  have he0 := he.stays hst0 (fun e => h6 e.symm)
  have hL0 : Lev ((((w.drewN q).setCell ⟨R, 1, none⟩ (.int .i64 (at_ + 1 : Nat))).setCell ⟨R, 2, none⟩ (.int .i64 (op + 1 : Nat))).alloc (.cells levCells 206)) w.heap.size := lev_new _ _ _ _ _ _
  have hcon := hf _ R w.heap.size s (at_ + 1) hp0 hs (by omega) he0 hL0
  rw [HR.out] at hcon
  refine hcon.mono ?_
  rintro e w2 ⟨hst, rfl⟩
  exact ⟨rfl, rfl, hst0.trans hst⟩
theorem prim_open2 {w : World} {R : Nat} {s : ByteArray} {at_ op : Nat} {f : Reads} {x : Ex} {t : List UInt8} (h : Par w R s at_ op) (hs : s.size ≤ 65536) (he : ErrR w) (ha : at_ < s.size) (hc : byteAt s at_ = 40) (hop : op < 16) (hf : ExprC (op + 1) f)
    (hr : f ((txt s).drop (at_ + 1)) = some (x, t)) (ht : t.headD 0 ≠ 41) :
    Calls Tryz.prog 162 #[.pointer (some ⟨R, 0, none⟩)] w (fun e w' => e = .panicked [Tr 4] ∧ Stays (fun k => k = R) w w') := by
  have HP := Lib.hid (peek_any h hs)
  obtain ⟨c, hcc⟩ : ∃ c, c = byteAt s at_ := ⟨_, rfl⟩
  rw [← hcc] at HP hc
  have h1 := digit_any c; simp only [show isDig c = false by rw [hc]; rfl] at h1; have HD := Lib.hid h1
  have h2 := letter_any c; simp only [show isLet c = false by rw [hc]; rfl] at h2; have HL := Lib.hid h2
  have hb : ((c.toNat : Int) == 40) = true := by rw [hc]; rfl
  clear hcc
  have hop' : (op : Int) < 16 := by omega
  have h6 := he.ne h
  clear h1 h2 hc
  have HR := Lib.hid hr
  clear hr
  obtain ⟨c0, c1, c2, f1, f2⟩ := h.facts
  go_enter Tryz.func162, Tryz.ntmps162
  go_wp2_with fail
  refine HP.out.mono ?_
  rintro e w1 ⟨rfl, q, rfl⟩
  go_wp2_with (first | (go_at_call 179; (with_reducible refine (HD.out _).mono ?_); rintro e w' ⟨rfl, rfl⟩) | (go_at_call 178; (with_reducible refine (HL.out _).mono ?_); rintro e w' ⟨rfl, rfl⟩) | (go_at_call 112; refine (levels_any _).mono ?_; rintro e w' ⟨rfl, rfl⟩))
  clear c0 c1 c2 f1 f2
  have hp0 := (((h.drewN q).setAt (at_ + 1)).setOp (op + 1)).below ((Below.refl _ _).alloc (Nat.le_refl _) (Obj.cells levCells 206))
  have hst0 := ((((Stays.refl (fun k => k = R) w).drewN q).set (p := ⟨R, 1, none⟩) (.inl rfl) (.int .i64 (at_ + 1 : Nat))).set (p := ⟨R, 2, none⟩) (.inl rfl) (.int .i64 (op + 1 : Nat))).alloc (Obj.cells levCells 206)
  have he0 := he.stays hst0 (fun e => h6 e.symm)
  have hL0 : Lev ((((w.drewN q).setCell ⟨R, 1, none⟩ (.int .i64 (at_ + 1 : Nat))).setCell ⟨R, 2, none⟩ (.int .i64 (op + 1 : Nat))).alloc (.cells levCells 206)) w.heap.size := lev_new _ _ _ _ _ _
  have hcon := hf _ R w.heap.size s (at_ + 1) hp0 hs (by omega) he0 hL0
  rw [HR.out] at hcon
  refine hcon.mono ?_
  rintro e w2 ⟨hst, g, cap, at2, rfl, hle2, hdr, hp2, hx⟩
  have hby : byteAt s at2 = t.headD 0 := by unfold byteAt; rw [hdr]
  have HP2 := Lib.hid (peek_any hp2 hs)
  rw [hby] at HP2
  have HDR := Lib.hid hdr
  clear hdr hby
  obtain ⟨d, hd⟩ : ∃ d, d = t.headD 0 := ⟨_, rfl⟩
  rw [← hd] at HP2 ht
  have hb2 : ((d.toNat : Int) == 41) = false := by
    have : d.toNat ≠ 41 := fun e => ht (UInt8.toNat_inj.1 e)
    simp; omega
  have hb3 : ((d.toNat : Int) != 41) = true := by simp [bne, hb2]
  clear ht hd
  go_wp2_with fail
  refine HP2.out.mono ?_
  rintro e w3 ⟨rfl, q3, rfl⟩
  go_wp2_with fail
  refine (fail_any 4 _).mono ?_
  rintro e w4 ⟨rfl, rfl⟩
  exact ⟨rfl, rfl, (hst0.trans hst).drewN _⟩
theorem prim_open3 {w : World} {R : Nat} {s : ByteArray} {at_ op : Nat} {f : Reads} {x : Ex} {t : List UInt8} (h : Par w R s at_ op) (hs : s.size ≤ 65536) (he : ErrR w) (ha : at_ < s.size) (hc : byteAt s at_ = 40) (hop : op < 16) (hf : ExprC (op + 1) f)
    (hr : f ((txt s).drop (at_ + 1)) = some (x, t)) {t2 : List UInt8} (ht : t = 41 :: t2) :
    Calls Tryz.prog 162 #[.pointer (some ⟨R, 0, none⟩)] w (Rd w R s op (some (x, t2))) := by
  have HP := Lib.hid (peek_any h hs)
  obtain ⟨c, hcc⟩ : ∃ c, c = byteAt s at_ := ⟨_, rfl⟩
  rw [← hcc] at HP hc
  have h1 := digit_any c; simp only [show isDig c = false by rw [hc]; rfl] at h1; have HD := Lib.hid h1
  have h2 := letter_any c; simp only [show isLet c = false by rw [hc]; rfl] at h2; have HL := Lib.hid h2
  have hb : ((c.toNat : Int) == 40) = true := by rw [hc]; rfl
  clear hcc
  have hop' : (op : Int) < 16 := by omega
  have h6 := he.ne h
  clear h1 h2 hc
  have HR := Lib.hid hr
  clear hr
  obtain ⟨c0, c1, c2, f1, f2⟩ := h.facts
  go_enter Tryz.func162, Tryz.ntmps162
  go_wp2_with fail
  refine HP.out.mono ?_
  rintro e w1 ⟨rfl, q, rfl⟩
  go_wp2_with (first | (go_at_call 179; (with_reducible refine (HD.out _).mono ?_); rintro e w' ⟨rfl, rfl⟩) | (go_at_call 178; (with_reducible refine (HL.out _).mono ?_); rintro e w' ⟨rfl, rfl⟩) | (go_at_call 112; refine (levels_any _).mono ?_; rintro e w' ⟨rfl, rfl⟩))
  clear c0 c1 c2 f1 f2
  have hp0 := (((h.drewN q).setAt (at_ + 1)).setOp (op + 1)).below ((Below.refl _ _).alloc (Nat.le_refl _) (Obj.cells levCells 206))
  have hst0 := ((((Stays.refl (fun k => k = R) w).drewN q).set (p := ⟨R, 1, none⟩) (.inl rfl) (.int .i64 (at_ + 1 : Nat))).set (p := ⟨R, 2, none⟩) (.inl rfl) (.int .i64 (op + 1 : Nat))).alloc (Obj.cells levCells 206)
  have he0 := he.stays hst0 (fun e => h6 e.symm)
  have hL0 : Lev ((((w.drewN q).setCell ⟨R, 1, none⟩ (.int .i64 (at_ + 1 : Nat))).setCell ⟨R, 2, none⟩ (.int .i64 (op + 1 : Nat))).alloc (.cells levCells 206)) w.heap.size := lev_new _ _ _ _ _ _
  have hcon := hf _ R w.heap.size s (at_ + 1) hp0 hs (by omega) he0 hL0
  rw [HR.out] at hcon
  refine hcon.mono ?_
  rintro e w2 ⟨hst, g, cap, at2, rfl, hle2, hdr, hp2, hx⟩
  have hby : byteAt s at2 = t.headD 0 := by unfold byteAt; rw [hdr]
  have HP2 := Lib.hid (peek_any hp2 hs)
  rw [hby] at HP2
  have HDR := Lib.hid hdr
  clear hdr hby
  have hlt2 : at2 < s.size := by
    have := HDR.out
    rw [ht] at this
    rcases Nat.lt_or_ge at2 s.size with h | h
    · exact h
    · rw [drop_end h] at this; cases this
  have hd2 : (txt s).drop (at2 + 1) = t2 := by
    have := HDR.out
    rw [ht, drop_byte hlt2] at this
    injection this
  have HD2 := Lib.hid hd2
  obtain ⟨d, hd⟩ : ∃ d, d = t.headD 0 := ⟨_, rfl⟩
  rw [← hd] at HP2
  have hb2 : ((d.toNat : Int) == 41) = true := by rw [hd, ht]; rfl
  have hb3 : ((d.toNat : Int) != 41) = false := by simp [bne, hb2]
  clear ht hd hd2
  go_wp2_with fail
  refine HP2.out.mono ?_
  rintro e w3 ⟨rfl, q3, rfl⟩
  obtain ⟨c0, c1, c2, f1, f2⟩ := hp2.facts
  go_wp2_with fail
  go_ret
  have hstf := ((Stays.refl (fun k => k = R) w2).drewN q3).set (p := ⟨R, 1, none⟩) (.inl rfl) (.int .i64 (at2 + 1 : Nat)) |>.set (p := ⟨R, 2, none⟩) (.inl rfl) (.int .i64 op)
  have hR := h.lt
  refine ⟨(hst0.trans hst).trans hstf, g, cap, at2 + 1, rfl, hlt2, HD2.out, ((hp2.drewN q3).setAt (at2 + 1)).setOp op, (hx.stays hstf ?_).wider (New.mono hst0.size hstf.size) ?_⟩
  · rintro k ⟨h1, h2⟩ rfl
    have := hst0.size
    omega
  · intro k hk; exact hk.2
theorem prim_any {op : Nat} {inner : Option Reads} (hin : op < 16 → ∃ f, inner = some f ∧ ExprC (op + 1) f) (hno : ¬ op < 16 → inner = none) : PrimC op (primE inner) := by
  intro w R s at_ h hs ha he
  rcases Nat.lt_or_ge at_ s.size with hlt | hge
  · rw [drop_byte hlt]
    unfold primE
    simp only
    cases hd : isDig (byteAt s at_) with
    | true =>
      rw [if_pos rfl, ← drop_byte hlt]
      have e1 : (taken isDig ((txt s).drop at_)).1.length = tk isDig s at_ := rfl
      have e2 : (taken isDig ((txt s).drop at_)).1 = txt (tkS isDig s at_) := (tk_txt _ _ _).symm
      by_cases h48 : byteAt s at_ = 48 ∧ (taken isDig ((txt s).drop at_)).1.length > 1
      · rw [if_pos (.inl h48)]
        rw [e1] at h48
        exact (prim_zero h hs hlt hd h48.1 h48.2).mono fun e w' h => ⟨h.2, h.1⟩
      · by_cases hbig : numOf (taken isDig ((txt s).drop at_)).1 > 9007199254740992
        · rw [if_pos (.inr hbig)]
          rw [e1] at h48
          rw [e2] at hbig
          exact (prim_over h hs he hlt hd h48 hbig).mono fun e w' h => ⟨h.2, h.1⟩
        · rw [if_neg (by rintro (h | h)
                         exact h48 h
                         exact hbig h)]
          rw [e1] at h48
          rw [← tk_rest, e2]
          rw [e2] at hbig
          exact prim_num h hs hlt hd h48 rfl (by omega)
    | false =>
      rw [if_neg (by simp)]
      cases hl : isLet (byteAt s at_) with
      | true =>
        rw [if_pos rfl, ← drop_byte hlt]
        have e1 : (taken isLet ((txt s).drop at_)).1.length = tk isLet s at_ := rfl
        have e2 : (taken isLet ((txt s).drop at_)).1 = txt (tkS isLet s at_) := (tk_txt _ _ _).symm
        by_cases h16 : (taken isLet ((txt s).drop at_)).1.length ≤ 16
        · rw [if_pos h16, ← tk_rest, e2]
          rw [e1] at h16
          exact prim_name h hs hlt hl h16
        · rw [if_neg h16]
          rw [e1] at h16
          exact (prim_long h hs hlt hl h16).mono fun e w' h => ⟨h.2, h.1⟩
      | false =>
        rw [if_neg (by simp)]
        by_cases h40 : byteAt s at_ = 40
        · rw [if_pos h40]
          by_cases hop : op < 16
          · obtain ⟨f, rfl, hf⟩ := hin hop
            simp only
            cases hr : f ((txt s).drop (at_ + 1)) with
            | none => exact (prim_open1 h hs he hlt h40 hop hf hr).mono fun e w' h => ⟨h.2, h.1⟩
            | some p =>
              obtain ⟨x, t⟩ := p
              cases t with
              | nil => exact (prim_open2 h hs he hlt h40 hop hf hr (by decide)).mono fun e w' h => ⟨h.2, h.1⟩
              | cons d t2 =>
                by_cases hd41 : d = 41
                · subst hd41
                  exact prim_open3 h hs he hlt h40 hop hf hr rfl
                · split
                  · rename_i heq
                    simp only [Option.some.injEq, Prod.mk.injEq, List.cons.injEq] at heq
                    exact absurd heq.2.1 hd41
                  · exact (prim_open2 h hs he hlt h40 hop hf hr (by simpa using hd41)).mono fun e w' h => ⟨h.2, h.1⟩
          · rw [hno hop]
            simp only
            exact (prim_other h hs rfl hd hl (fun h => hop h.2)).mono fun e w' h => ⟨h.2, h.1⟩
        · rw [if_neg h40]
          exact (prim_other h hs rfl hd hl (fun h => h40 h.1)).mono fun e w' h => ⟨h.2, h.1⟩
  · rw [drop_end hge]
    unfold primE
    exact (prim_other h hs rfl (by rw [byteAt_ge hge]; rfl) (by rw [byteAt_ge hge]; rfl) (fun h => by rw [byteAt_ge hge] at h; exact absurd h.1 (by decide))).mono fun e w' h => ⟨h.2, h.1⟩
end Go.Proofs.YtddnmocoaahlfaaGreatDoor
