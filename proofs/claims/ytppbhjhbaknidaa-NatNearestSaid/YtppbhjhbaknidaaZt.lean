/-
  Plain laws of the texts of fractions: where the slash stands, what ParseFrac answers. No condition. The contract of the program's ParseFrac. Conditions: a string of less than 2^32 - 15 bytes; the library's variable internal/bytealg.MaxLen holds some int. The contract of the specification's ParseFrac. Condition: a string of at most 2^40 bytes. The walk of the law NatFracTexts. Condition: the library variable internal/bytealg.MaxLen holds some int.
-/
import Derived.Test.YtppbhjhbaknidaaZs
import Derived.Lib.IndexMore
set_option linter.unusedVariables false
set_option linter.unusedSimpArgs false

/-
  Plain laws of the texts of fractions: where the slash stands, what ParseFrac answers. No condition.
-/
set_option linter.unusedVariables false
set_option linter.unusedSimpArgs false
namespace Go.Proofs.Ytppbhjhbaknidaa
open Go.RowKit

/-- The first slash of l stands at k (at the end: there is none). -/
structure Slash (l : List Nat) (k : Nat) : Prop where
  le : k ≤ l.length
  no : ∀ i, i < k → nth l i ≠ 47
  at_ : k < l.length → nth l k = 47
theorem slash_ex : ∀ l : List Nat, ∃ k, Slash l k
  | [] => ⟨0, Nat.le_refl _, fun i h => by omega, fun h => by simp at h⟩
  | x :: l => by
    by_cases hx : x = 47
    · exact ⟨0, Nat.zero_le _, fun i h => by omega, fun _ => by rw [hx]; rfl⟩
    · obtain ⟨k, h⟩ := slash_ex l
      refine ⟨k + 1, Nat.succ_le_succ h.le, fun i hi => ?_, fun hk => h.at_ (Nat.lt_of_succ_lt_succ hk)⟩
      cases i with
      | zero => exact hx
      | succ i => exact h.no i (by omega)

theorem occ_iff (l : List UInt8) (i : Nat) : Lib.occAt l [47] i = true ↔ l[i]? = some 47 := by
  unfold Lib.occAt
  rw [← List.head?_drop]
  cases l.drop i with
  | nil => simp [List.isPrefixOf]
  | cons x xs =>
    simp only [List.isPrefixOf, List.head?_cons, Bool.and_true, beq_iff_eq, Option.some.injEq]
    exact eq_comm
theorem byts_get (s : ByteArray) (i : Nat) : s.data.toList[i]? = some 47 ↔ i < s.size ∧ nth (byts s) i = 47 := by
  constructor
  · intro h
    have hi : i < s.data.toList.length := (List.getElem?_eq_some_iff.1 h).1
    have hi2 : i < s.size := by simpa using hi
    refine ⟨hi2, ?_⟩
    rw [byts_nth s hi2]
    have : s[i] = 47 := by
      have := (List.getElem?_eq_some_iff.1 h).2
      show s.data[i] = 47
      simpa using this
    rw [this]
    rfl
  · rintro ⟨hi, h⟩
    rw [byts_nth s hi] at h
    rw [List.getElem?_eq_some_iff]
    refine ⟨by simpa using hi, ?_⟩
    have : s.data[i] = 47 := UInt8.toNat_inj.1 h
    simpa using this

def pre (s : ByteArray) (k : Nat) : ByteArray := ⟨(s.data.toList.take k).toArray⟩
def post (s : ByteArray) (k : Nat) : ByteArray := ⟨(s.data.toList.drop (k + 1)).toArray⟩
theorem byts_pre (s : ByteArray) (k : Nat) : byts (pre s k) = (byts s).take k := by
  unfold byts pre; simp
theorem byts_post (s : ByteArray) (k : Nat) : byts (post s k) = (byts s).drop (k + 1) := by
  unfold byts post; simp
theorem size_pre (s : ByteArray) (k : Nat) : (pre s k).size ≤ s.size := by
  rw [← byts_len, ← byts_len, byts_pre, List.length_take]; omega
theorem size_post (s : ByteArray) (k : Nat) : (post s k).size ≤ s.size := by
  rw [← byts_len, ← byts_len, byts_post, List.length_drop]; omega

theorem cut_at {s : ByteArray} {k : Nat} (h : Slash (byts s) k) :
    Lib.cut s.data.toList [47] = if k < s.size then (s.data.toList.take k, s.data.toList.drop (k + 1), true) else (s.data.toList, [], false) := by
  have hl : (byts s).length = s.size := byts_len s
  have hno : ∀ j, j < k → Lib.occAt s.data.toList [47] j = false := by
    intro j hj
    rw [Bool.eq_false_iff]
    intro hc
    exact h.no j hj ((byts_get s j).1 ((occ_iff _ _).1 hc)).2
  by_cases hk : k < s.size
  · rw [if_pos hk]
    have hi : Lib.index s.data.toList [47] = (k : Int) := Lib.index_first (by simpa using Nat.le_of_lt hk) ((occ_iff _ _).2 ((byts_get s k).2 ⟨hk, h.at_ (by omega)⟩)) hno
    unfold Lib.cut
    rw [hi, if_pos (by omega)]
    simp
  · rw [if_neg hk]
    have hle := h.le
    have hks : k = s.size := by omega
    have hi : Lib.index s.data.toList [47] = -1 := by
      refine Lib.index_none fun j hj => ?_
      rcases Nat.lt_or_ge j k with g | g
      · exact hno j g
      · rw [Bool.eq_false_iff]
        intro hc
        have := ((byts_get s j).1 ((occ_iff _ _).1 hc)).1
        omega
    unfold Lib.cut
    rw [hi, if_neg (by omega)]

def pfN (l : List Nat) (k : Nat) : Nat := numOf (l.take k)
def pfD (l : List Nat) (k : Nat) : Nat := if k < l.length then numOf (l.drop (k + 1)) else 1
/-- The error of the fraction of a string whose first slash stands at k. -/
def pfE (l : List Nat) (k : Nat) : Nat :=
  if ¬ IsNum (l.take k) ∨ (k < l.length ∧ (¬ IsNum (l.drop (k + 1)) ∨ l.drop (k + 1) = [48] ∨ l.drop (k + 1) = [49])) then 4
  else if fitE (pfN l k) ≠ 0 ∨ fitE (pfD l k) ≠ 0 then 3 else if Nat.gcd (pfN l k) (pfD l k) ≠ 1 then 4 else 0
theorem pfE_syn {l : List Nat} {k : Nat} (h : ¬ IsNum (l.take k) ∨ (k < l.length ∧ (¬ IsNum (l.drop (k + 1)) ∨ l.drop (k + 1) = [48] ∨ l.drop (k + 1) = [49]))) : pfE l k = 4 := if_pos h
theorem pfE_big {l : List Nat} {k : Nat} (h1 : ¬ (¬ IsNum (l.take k) ∨ (k < l.length ∧ (¬ IsNum (l.drop (k + 1)) ∨ l.drop (k + 1) = [48] ∨ l.drop (k + 1) = [49])))) (h2 : fitE (pfN l k) ≠ 0 ∨ fitE (pfD l k) ≠ 0) : pfE l k = 3 := by
  unfold pfE; rw [if_neg h1, if_pos h2]
theorem pfE_gcd {l : List Nat} {k : Nat} (h1 : ¬ (¬ IsNum (l.take k) ∨ (k < l.length ∧ (¬ IsNum (l.drop (k + 1)) ∨ l.drop (k + 1) = [48] ∨ l.drop (k + 1) = [49])))) (h2 : ¬ (fitE (pfN l k) ≠ 0 ∨ fitE (pfD l k) ≠ 0)) (h3 : Nat.gcd (pfN l k) (pfD l k) ≠ 1) : pfE l k = 4 := by
  unfold pfE; rw [if_neg h1, if_neg h2, if_pos h3]
theorem pfE_ok {l : List Nat} {k : Nat} (h1 : ¬ (¬ IsNum (l.take k) ∨ (k < l.length ∧ (¬ IsNum (l.drop (k + 1)) ∨ l.drop (k + 1) = [48] ∨ l.drop (k + 1) = [49])))) (h2 : ¬ (fitE (pfN l k) ≠ 0 ∨ fitE (pfD l k) ≠ 0)) (h3 : Nat.gcd (pfN l k) (pfD l k) = 1) : pfE l k = 0 := by
  unfold pfE; rw [if_neg h1, if_neg h2, if_neg (fun h => h h3)]
theorem fitE_3 {n : Nat} (h : fitE n ≠ 0) : fitE n = 3 := by
  unfold fitE at h ⊢
  split
  · rename_i g; rw [if_pos g] at h; exact absurd rfl h
  · rfl
theorem fitE_0 {n : Nat} (h : fitE n = 0) : n < P2 16384 := by
  unfold fitE at h
  split at h
  · assumption
  · cases h
theorem fitE_1 : fitE 1 = 0 := if_pos (P2_16384 (by omega))
theorem fitE_lt (n : Nat) : fitE n < 1000 := by unfold fitE; split <;> omega

theorem pos_num {l : List Nat} (h : IsNum l) (h0 : l ≠ [48]) : 0 < numOf l := by
  refine Nat.pos_of_ne_zero fun hc => h0 ?_
  rw [← decs_numOf h, hc]
  rfl
theorem byts_inj {a b : ByteArray} (h : byts a = byts b) : a = b := by rw [← bstr_byts a, h, bstr_byts]

/-- The text of a fraction in lowest terms is read as this fraction. -/
theorem pf_text {N D : Nat} (hN : N < P2 16384) (hD : D < P2 16384) (hD0 : 0 < D) (hg : Nat.gcd N D = 1) :
    ∃ k, Slash (byts (ftxt N D)) k ∧ pfE (byts (ftxt N D)) k = 0 ∧ pfN (byts (ftxt N D)) k = N ∧ pfD (byts (ftxt N D)) k = D := by
  rw [byts_ftxt]
  have hsl : ∀ (ys : List Nat) i, i < (decs N).length → nth (decs N ++ ys) i ≠ 47 := by
    intro ys i hi
    have : nth (decs N ++ ys) i = (decs N)[i] := by
      unfold nth
      rw [List.getD_eq_getElem?_getD, List.getElem?_append_left hi, List.getElem?_eq_getElem hi]
      rfl
    rw [this]
    exact decs_slash N _ (List.getElem_mem hi)
  have hfN : fitE N = 0 := if_pos hN
  have hfD : fitE D = 0 := if_pos hD
  by_cases h1 : D = 1
  · subst h1
    rw [if_pos rfl]
    have ht : (decs N).take (decs N).length = decs N := List.take_length
    have hn : pfN (decs N) (decs N).length = N := by unfold pfN; rw [ht, numOf_decs]
    have hd : pfD (decs N) (decs N).length = 1 := if_neg (Nat.lt_irrefl _)
    refine ⟨(decs N).length, ⟨Nat.le_refl _, fun i hi => ?_, fun h => absurd h (Nat.lt_irrefl _)⟩, pfE_ok ?_ ?_ ?_, hn, hd⟩
    · have := hsl [] i hi
      rwa [List.append_nil] at this
    · rw [ht]
      rintro (h | ⟨h, -⟩)
      · exact h (decs_num N)
      · exact Nat.lt_irrefl _ h
    · rw [hn, hd, hfN, fitE_1]; exact fun h => by omega
    · rw [hn, hd]; exact hg
  · rw [if_neg h1]
    have ht : (decs N ++ 47 :: decs D).take (decs N).length = decs N := by rw [List.take_append_of_le_length (Nat.le_refl _), List.take_length]
    have hr : (decs N ++ 47 :: decs D).drop ((decs N).length + 1) = decs D := by
      rw [← List.drop_drop, List.drop_left]
      rfl
    have hlen : (decs N).length < (decs N ++ 47 :: decs D).length := by simp
    have hn : pfN (decs N ++ 47 :: decs D) (decs N).length = N := by unfold pfN; rw [ht, numOf_decs]
    have hd : pfD (decs N ++ 47 :: decs D) (decs N).length = D := by unfold pfD; rw [if_pos hlen, hr, numOf_decs]
    refine ⟨(decs N).length, ⟨Nat.le_of_lt hlen, fun i hi => hsl _ i hi, fun _ => ?_⟩, pfE_ok ?_ ?_ ?_, hn, hd⟩
    · unfold nth
      rw [List.getD_eq_getElem?_getD, List.getElem?_append_right (Nat.le_refl _)]
      simp
    · rw [ht, hr]
      rintro (h | ⟨-, h | h | h⟩)
      · exact h (decs_num N)
      · exact h (decs_num D)
      · have := numOf_decs D; rw [h] at this; have e : numOf [48] = 0 := rfl; omega
      · have := numOf_decs D; rw [h] at this; have e : numOf [49] = 1 := rfl; omega
    · rw [hn, hd, hfN, hfD]; exact fun h => by omega
    · rw [hn, hd]; exact hg

end Go.Proofs.Ytppbhjhbaknidaa

/-
  The contract of the program's ParseFrac. Conditions: a string of less than 2^32 - 15 bytes; the library's variable internal/bytealg.MaxLen holds some int.
-/
set_option linter.unusedVariables false
set_option linter.unusedSimpArgs false
namespace Go.Proofs.Ytppbhjhbaknidaa
open Go.RowKit

/-- The library's variable internal/bytealg.MaxLen holds some int. -/
def MaxV (w : World) : Prop := 0 < w.heap.size ∧ ∃ m, w.cell? ⟨0, 0, none⟩ = some (.int .i64 m)
theorem MaxV.below {w w' : World} (h : MaxV w) (b : Below w.heap.size w w') : MaxV w' := by
  obtain ⟨h1, m, h2⟩ := h
  exact ⟨Nat.lt_of_lt_of_le h1 b.size, m, (b.cell (p := ⟨0, 0, none⟩) h1).trans h2⟩
theorem cell_lt {w : World} {v : Value} (h : w.cell? ⟨0, 0, none⟩ = some v) : 0 < w.heap.size := by
  refine Nat.pos_of_ne_zero fun h0 => ?_
  have : w.heap = #[] := Array.size_eq_zero_iff.1 h0
  simp [World.cell?, this] at h
theorem MaxV.of {w : World} (h : w.ShapedOpen Try.prog) : MaxV w := by
  obtain ⟨m, hm⟩ := Try.laysM145.s1_3 w h
  exact ⟨cell_lt hm, m, hm⟩

theorem cut_c {s : ByteArray} {k : Nat} (hs : s.size < 4294967281) (hk : Slash (byts s) k) (w : World) (hm : MaxV w) :
    Calls Try.prog 125 #[.string s, .string ⟨#[47]⟩] w fun e w' => e = .returned (.tuple #[.string (pre s k), .string (if k < s.size then post s k else ByteArray.empty), .bool (decide (k < s.size))]) ∧ Below w.heap.size w w' := by
  obtain ⟨h0, m, hm⟩ := hm
  have h := Try.strings_Cut s ⟨#[47]⟩ m w hs hm
  have hc := cut_at hk
  rw [show (⟨#[47]⟩ : ByteArray).data.toList = [47] from rfl, hc] at h
  refine h.mono ?_
  rintro e w' ⟨h1, n, rfl⟩
  refine ⟨?_, below_drewN' (Below.refl _ _) n⟩
  rw [h1]
  have hle := hk.le
  rw [byts_len] at hle
  by_cases hlt : k < s.size
  · rw [if_pos hlt, if_pos hlt, decide_eq_true hlt]; rfl
  · have e : pre s k = s := byts_inj (by rw [byts_pre, List.take_of_length_le (by rw [byts_len]; omega)])
    rw [if_neg hlt, if_neg hlt, decide_eq_false hlt, e]; rfl

theorem str_ne {s : ByteArray} {c : UInt8} (h : byts s ≠ [c.toNat]) : (s.toList == (⟨#[c]⟩ : ByteArray).toList) = false := by
  rw [beq_eq_false_iff_ne]
  intro hc
  rw [toList_inj hc] at h
  exact h rfl
theorem lit_one (c : UInt8) : (⟨#[c]⟩ : ByteArray).toList = [c] := by rw [ByteArray.toList_eq]
theorem str_eq {s : ByteArray} {c : UInt8} (h : byts s = [c.toNat]) : s = ⟨#[c]⟩ := byts_inj (by rw [h]; rfl)

set_option maxHeartbeats 16000000 in
set_option maxRecDepth 100000 in
theorem parseFrac_any (s : ByteArray) (w : World) (k : Nat) (hs : s.size < 4294967281) (hk : Slash (byts s) k) (hm : MaxV w) :
    Calls Try.prog 96 #[.string s] w (RetFE w (pfN (byts s) k) (pfD (byts s) k) (pfE (byts s) k)) := by
  obtain ⟨hB, kr⟩ := prof w (.slice none 0 0) (.slice none 0 0)
  replace hm := hm.below hB
  have HC := Lib.hid (fun w_ (h : MaxV w_) => cut_c hs hk w_ h)
  have hlen : (byts s).length = s.size := byts_len s
  have HLE := Lib.hid hlen
  have ht := size_pre s k
  have hp := size_post s k
  have htb : byts (pre s k) = (byts s).take k := byts_pre s k
  have hpb : byts (post s k) = (byts s).drop (k + 1) := byts_post s k
  have HA := Lib.hid (fun w_ bo (h : bo = true ↔ IsNum ((byts s).take k)) => numeral_any (pre s k) w_ (by omega) bo (by rw [htb]; exact h))
  have HBn := Lib.hid (fun w_ bo (h : bo = true ↔ IsNum ((byts s).drop (k + 1))) => numeral_any (post s k) w_ (by omega) bo (by rw [hpb]; exact h))
  have HPa_ := Lib.hid (fun w_ => parse_any (pre s k) w_ (by omega))
  have HPb_ := Lib.hid (fun w_ => parse_any (post s k) w_ (by omega))
  rw [htb] at HPa_
  rw [hpb] at HPb_
  have HTB := Lib.hid htb
  have HPB := Lib.hid hpb
  clear hs hk ht hp htb hpb
  go_enter Try.func96, Try.ntmps96
  go_wp2_with fail
  obtain ⟨wo, hw_⟩ : ∃ w_ : World, w_ = (w.alloc (.cells #[.slice none 0 0, .slice none 0 0] 50)) := ⟨_, rfl⟩
  rw [← hw_] at hB kr hm ⊢
  clear hw_
  refine (HC.out _ hm).mono ?_
  rintro e w1 ⟨rfl, b⟩
  clear HC hm
  replace kr := kr.below b
  replace hB := nextB hB b
  clear b
  by_cases ha : IsNum ((byts s).take k)
  · have HPa : Hid (∀ w_, Calls Try.prog 32 #[.string (pre s k)] w_ (RetE w_ (pfN (byts s) k) (fitE (pfN (byts s) k)))) := Lib.hid (fun w_ => by
      have := HPa_.out w_
      rw [parseE_eq, if_pos ha] at this
      exact this)
    have HIA := Lib.hid ha
    clear HPa_ ha
    by_cases hlt : k < s.size
    · rw [if_pos hlt, decide_eq_true hlt]
      have HLT := Lib.hid (show k < (byts s).length by rw [hlen]; exact hlt)
      clear hlt hlen
      go_wp2_with fail
      refine (HA.out _ true ⟨fun _ => HIA.out, fun _ => rfl⟩).mono ?_
      rintro e w2 ⟨rfl, hw⟩
      subst hw
      by_cases hb : IsNum ((byts s).drop (k + 1))
      · have HIB := Lib.hid hb
        clear hb
        go_wp2_with fail
        refine (HBn.out _ true ⟨fun _ => HIB.out, fun _ => rfl⟩).mono ?_
        rintro e w2 ⟨rfl, hw⟩
        subst hw
        by_cases h48 : (byts s).drop (k + 1) = [48]
        · have hx := str_eq (c := 48) (HPB.out.trans h48)
          have H48 := Lib.hid h48
          clear h48
          rw [hx]
          clear hx
          have HE := Lib.hid (pfE_syn (.inr ⟨HLT.out, .inr (.inl H48.out)⟩))
          have c0 := kr.cell0
          have c1 := kr.cell1
          have f0 := kr.free0
          have f1 := kr.free1
          have kg := kr.set0 (.slice none 0 0)
          have d1 := kg.cell1
          have g1 := kg.free1
          have d0 := kg.cell0
          go_wp2
          refine bodyPost_ret (v := .tuple #[.agg #[.slice none 0 0, .slice none 0 0], .int .i64 (4 : Nat)]) (by simp [results, Try.results96, go_sem, c0, c1, d0, d1]) rfl ⟨_, by rw [HE.out], by rw [HE.out, if_neg (by omega), if_neg (by omega)]; exact IsF.zero _, (hB.setCell (p := ⟨w.heap.size, 0, none⟩) (Nat.le_refl _) _).setCell (p := ⟨w.heap.size, 1, none⟩) (Nat.le_refl _) _⟩
        · have hx := str_ne (s := post s k) (c := 48) (by rw [HPB.out]; exact h48)
          have hx2 : ((post s k).toList == [48]) = false := by have h := hx; rwa [lit_one] at h
          have H48 := Lib.hid h48
          clear h48
          by_cases h49 : (byts s).drop (k + 1) = [49]
          · have hx := str_eq (c := 49) (HPB.out.trans h49)
            have H49 := Lib.hid h49
            clear h49
            rw [hx]
            clear hx
            have HE := Lib.hid (pfE_syn (.inr ⟨HLT.out, .inr (.inr H49.out)⟩))
            have c0 := kr.cell0
            have c1 := kr.cell1
            have f0 := kr.free0
            have f1 := kr.free1
            have kg := kr.set0 (.slice none 0 0)
            have d1 := kg.cell1
            have g1 := kg.free1
            have d0 := kg.cell0
            go_wp2
            refine bodyPost_ret (v := .tuple #[.agg #[.slice none 0 0, .slice none 0 0], .int .i64 (4 : Nat)]) (by simp [results, Try.results96, go_sem, c0, c1, d0, d1]) rfl ⟨_, by rw [HE.out], by rw [HE.out, if_neg (by omega), if_neg (by omega)]; exact IsF.zero _, (hB.setCell (p := ⟨w.heap.size, 0, none⟩) (Nat.le_refl _) _).setCell (p := ⟨w.heap.size, 1, none⟩) (Nat.le_refl _) _⟩
          · have hy := str_ne (s := post s k) (c := 49) (by rw [HPB.out]; exact h49)
            have hy2 : ((post s k).toList == [49]) = false := by have h := hy; rwa [lit_one] at h
            have HS := Lib.hid (show ¬ (¬ IsNum ((byts s).take k) ∨ (k < (byts s).length ∧ (¬ IsNum ((byts s).drop (k + 1)) ∨ (byts s).drop (k + 1) = [48] ∨ (byts s).drop (k + 1) = [49]))) from fun h => h.elim (fun g => g HIA.out) (fun g => g.2.elim (fun g => g HIB.out) (fun g => g.elim H48.out h49)))
            have hpd : pfD (byts s) k = numOf ((byts s).drop (k + 1)) := if_pos HLT.out
            have HD0 := Lib.hid (show 0 < pfD (byts s) k by rw [hpd]; exact pos_num HIB.out H48.out)
            have HPb : Hid (∀ w_, Calls Try.prog 32 #[.string (post s k)] w_ (RetE w_ (pfD (byts s) k) (fitE (pfD (byts s) k)))) := Lib.hid (fun w_ => by
              have := HPb_.out w_
              rw [parseE_eq, if_pos HIB.out, ← hpd] at this
              exact this)
            clear h49 hpd HPb_
            go_wp2_with fail
            refine (HPa.out _).mono ?_
            rintro e w3 ⟨v1, rfl, i1, b⟩
            replace kr := kr.below b
            replace hB := nextB hB b
            clear b
            by_cases h1 : fitE (pfN (byts s) k) = 0
            · rw [h1, if_pos rfl] at i1
              rw [h1]
              have H1 := Lib.hid h1
              have HL1 := Lib.hid (fitE_0 h1)
              clear h1
              obtain ⟨ao1, k1, cap1, rfl, x1⟩ := i1.slice
              clear i1
              obtain ⟨b, ka⟩ := pro1 w3 (.slice ao1 k1 cap1)
              obtain ⟨Ra, hRa⟩ : ∃ R, R = w3.heap.size := ⟨_, rfl⟩
              have cc0 := ka.cell
              go_wp2_with fail
              clear cc0
              obtain ⟨w4, hw_⟩ : ∃ w_ : World, w_ = (w3.alloc (.cells #[.slice ao1 k1 cap1] 25)) := ⟨_, rfl⟩
              rw [← hw_] at b ka ⊢
              rw [← hRa] at ka ⊢
              clear hw_ hRa
              replace kr := kr.below b
              replace x1 := x1.below b
              replace hB := nextB hB b
              clear b
              refine (HPb.out _).mono ?_
              rintro e w5 ⟨v2, rfl, i2, b⟩
              replace kr := kr.below b
              replace x1 := x1.below b
              replace ka := ka.below b
              replace hB := nextB hB b
              clear b
              by_cases h2 : fitE (pfD (byts s) k) = 0
              · rw [h2, if_pos rfl] at i2
                rw [h2]
                have HL2 := Lib.hid (fitE_0 h2)
                have HF := Lib.hid (show ¬ (fitE (pfN (byts s) k) ≠ 0 ∨ fitE (pfD (byts s) k) ≠ 0) from fun h => h.elim (fun g => g H1.out) (fun g => g h2))
                clear h2
                obtain ⟨ao2, k2, cap2, rfl, x2⟩ := i2.slice
                clear i2
                obtain ⟨b, kb⟩ := pro1 w5 (.slice ao2 k2 cap2)
                obtain ⟨Rb, hRb⟩ : ∃ R, R = w5.heap.size := ⟨_, rfl⟩
                have cc0 := (ka.below b).cell
                have cc1 := kb.cell
                go_wp2_with fail
                clear cc0 cc1
                obtain ⟨w6, hw_⟩ : ∃ w_ : World, w_ = (w5.alloc (.cells #[.slice ao2 k2 cap2] 25)) := ⟨_, rfl⟩
                rw [← hw_] at b kb ⊢
                rw [← hRb] at kb ⊢
                clear hw_ hRb
                replace kr := kr.below b
                replace x1 := x1.below b
                replace x2 := x2.below b
                replace ka := ka.below b
                replace hB := nextB hB b
                clear b
                refine (gcd_any x1 x2 16384 (by omega) HL1.out HL2.out).mono ?_
                rintro e w7 ⟨v3, rfl, x3, b⟩
                replace kr := kr.below b
                replace x1 := x1.below b
                replace x2 := x2.below b
                replace ka := ka.below b
                replace kb := kb.below b
                replace hB := nextB hB b
                clear b
                go_wp2_with fail
                refine (words_any 1 _ (by omega) (by omega)).mono ?_
                rintro e w8 ⟨v4, rfl, x4, b⟩
                rw [show (1 : Int).toNat = 1 from rfl] at x4
                replace kr := kr.below b
                replace x1 := x1.below b
                replace x2 := x2.below b
                replace ka := ka.below b
                replace kb := kb.below b
                replace x3 := x3.below b
                replace hB := nextB hB b
                clear b
                go_wp2_with fail
                refine (cmp_any x3 x4).mono ?_
                rintro e w9 ⟨rfl, b⟩
                replace kr := kr.below b
                replace x1 := x1.below b
                replace x2 := x2.below b
                replace ka := ka.below b
                replace kb := kb.below b
                replace hB := nextB hB b
                clear b
                clear x3 x4
                by_cases hg : Nat.gcd (pfN (byts s) k) (pfD (byts s) k) = 1
                · have HE := Lib.hid (pfE_ok HS.out HF.out hg)
                  rw [hg]
                  have hz : ((cmpI 1 1 : Int) != 0) = false := rfl
                  have HG := Lib.hid hg
                  clear hg
                  have cc0 := ka.cell
                  have cc1 := kb.cell
                  go_wp2_with fail
                  clear cc0 cc1 hz
                  refine (lowest_any x1 x2 HD0.out 16384 (by omega) HL1.out HL2.out).mono ?_
                  rintro e wq ⟨v8, rfl, i8, b⟩
                  rw [HG.out, Nat.div_one, Nat.div_one] at i8
                  obtain ⟨ao7, k7, cap7, ao8, k8, cap8, rfl, i9, i10, h7⟩ := i8.slice
                  clear i8
                  replace kr := kr.below b
                  replace hB := nextB hB b
                  clear b
                  have c0 := kr.cell0
                  have c1 := kr.cell1
                  have f0 := kr.free0
                  have f1 := kr.free1
                  have kg := kr.set0 (.slice ao7 k7 cap7)
                  have d1 := kg.cell1
                  have g1 := kg.free1
                  have d0 := kg.cell0
                  go_wp2
                  refine bodyPost_ret (v := .tuple #[.agg #[.slice ao7 k7 cap7, .slice ao8 k8 cap8], .int .i64 (0 : Nat)]) (by simp [results, Try.results96, go_sem, c0, c1, d0, d1]) rfl ⟨_, by rw [HE.out], by rw [HE.out, if_pos rfl, if_pos rfl]; exact IsF.of ((i9.setF kr NoInt.two 0 _).setF kg NoInt.two 1 _) ((i10.setF kr NoInt.two 0 _).setF kg NoInt.two 1 _) h7, (hB.setCell (p := ⟨w.heap.size, 0, none⟩) (Nat.le_refl _) _).setCell (p := ⟨w.heap.size, 1, none⟩) (Nat.le_refl _) _⟩
                · have HG := Lib.hid hg
                  have hz : ((cmpI (Nat.gcd (pfN (byts s) k) (pfD (byts s) k)) 1 : Int) != 0) = true := by rw [bne_iff_ne]; exact fun h => by have := cmpI_ne hg; rw [h] at this; cases this
                  clear hg
                  have HE := Lib.hid (pfE_gcd HS.out HF.out HG.out)
                  have c0 := kr.cell0
                  have c1 := kr.cell1
                  have f0 := kr.free0
                  have f1 := kr.free1
                  have kg := kr.set0 (.slice none 0 0)
                  have d1 := kg.cell1
                  have g1 := kg.free1
                  have d0 := kg.cell0
                  go_wp2
                  refine bodyPost_ret (v := .tuple #[.agg #[.slice none 0 0, .slice none 0 0], .int .i64 (4 : Nat)]) (by simp [results, Try.results96, go_sem, c0, c1, d0, d1]) rfl ⟨_, by rw [HE.out], by rw [HE.out, if_neg (by omega), if_neg (by omega)]; exact IsF.zero _, (hB.setCell (p := ⟨w.heap.size, 0, none⟩) (Nat.le_refl _) _).setCell (p := ⟨w.heap.size, 1, none⟩) (Nat.le_refl _) _⟩
              · rw [fitE_3 h2] at i2
                rw [fitE_3 h2]
                have H2 := Lib.hid (fitE_3 h2)
                clear h2
                obtain ⟨ao2, k2, cap2, rfl, x2⟩ := i2.slice
                clear i2
                obtain ⟨b, kb⟩ := pro1 w5 (.slice ao2 k2 cap2)
                obtain ⟨Rb, hRb⟩ : ∃ R, R = w5.heap.size := ⟨_, rfl⟩
                have cc0 := (ka.below b).cell
                have cc1 := kb.cell
                clear cc0 cc1 hRb
                have HE := Lib.hid (pfE_big HS.out (.inr (by rw [H2.out]; omega)))
                replace kr := kr.below b
                replace hB := nextB hB b
                have c0 := kr.cell0
                have c1 := kr.cell1
                have f0 := kr.free0
                have f1 := kr.free1
                have kg := kr.set0 (.slice none 0 0)
                have d1 := kg.cell1
                have g1 := kg.free1
                have d0 := kg.cell0
                go_wp2
                refine bodyPost_ret (v := .tuple #[.agg #[.slice none 0 0, .slice none 0 0], .int .i64 (3 : Nat)]) (by simp [results, Try.results96, go_sem, c0, c1, d0, d1]) rfl ⟨_, by rw [HE.out], by rw [HE.out, if_neg (by omega), if_neg (by omega)]; exact IsF.zero _, (hB.setCell (p := ⟨w.heap.size, 0, none⟩) (Nat.le_refl _) _).setCell (p := ⟨w.heap.size, 1, none⟩) (Nat.le_refl _) _⟩
            · rw [fitE_3 h1] at i1
              rw [fitE_3 h1]
              have H1 := Lib.hid (fitE_3 h1)
              clear h1
              obtain ⟨ao1, k1, cap1, rfl, x1⟩ := i1.slice
              clear i1
              obtain ⟨b, ka⟩ := pro1 w3 (.slice ao1 k1 cap1)
              obtain ⟨Ra, hRa⟩ : ∃ R, R = w3.heap.size := ⟨_, rfl⟩
              have cc0 := ka.cell
              go_wp2_with fail
              clear cc0
              obtain ⟨w4, hw_⟩ : ∃ w_ : World, w_ = (w3.alloc (.cells #[.slice ao1 k1 cap1] 25)) := ⟨_, rfl⟩
              rw [← hw_] at b ka ⊢
              rw [← hRa] at ka ⊢
              clear hw_ hRa
              replace kr := kr.below b
              replace x1 := x1.below b
              replace hB := nextB hB b
              clear b
              refine (HPb.out _).mono ?_
              rintro e w5 ⟨v2, rfl, i2, b⟩
              replace kr := kr.below b
              replace x1 := x1.below b
              replace ka := ka.below b
              replace hB := nextB hB b
              clear b
              obtain ⟨ao2, k2, cap2, rfl, x2⟩ := i2.slice
              clear i2
              obtain ⟨b, kb⟩ := pro1 w5 (.slice ao2 k2 cap2)
              obtain ⟨Rb, hRb⟩ : ∃ R, R = w5.heap.size := ⟨_, rfl⟩
              have cc0 := (ka.below b).cell
              have cc1 := kb.cell
              clear cc0 cc1 hRb
              have HE := Lib.hid (pfE_big HS.out (.inl (by rw [H1.out]; omega)))
              replace kr := kr.below b
              replace hB := nextB hB b
              have c0 := kr.cell0
              have c1 := kr.cell1
              have f0 := kr.free0
              have f1 := kr.free1
              have kg := kr.set0 (.slice none 0 0)
              have d1 := kg.cell1
              have g1 := kg.free1
              have d0 := kg.cell0
              go_wp2
              refine bodyPost_ret (v := .tuple #[.agg #[.slice none 0 0, .slice none 0 0], .int .i64 (3 : Nat)]) (by simp [results, Try.results96, go_sem, c0, c1, d0, d1]) rfl ⟨_, by rw [HE.out], by rw [HE.out, if_neg (by omega), if_neg (by omega)]; exact IsF.zero _, (hB.setCell (p := ⟨w.heap.size, 0, none⟩) (Nat.le_refl _) _).setCell (p := ⟨w.heap.size, 1, none⟩) (Nat.le_refl _) _⟩
      · have HIB := Lib.hid hb
        clear hb
        go_wp2_with fail
        refine (HBn.out _ false ⟨fun h => (by cases h), fun h => absurd h HIB.out⟩).mono ?_
        rintro e w2 ⟨rfl, hw⟩
        subst hw
        have HE := Lib.hid (pfE_syn (.inr ⟨HLT.out, .inl HIB.out⟩))
        have c0 := kr.cell0
        have c1 := kr.cell1
        have f0 := kr.free0
        have f1 := kr.free1
        have kg := kr.set0 (.slice none 0 0)
        have d1 := kg.cell1
        have g1 := kg.free1
        have d0 := kg.cell0
        go_wp2
        refine bodyPost_ret (v := .tuple #[.agg #[.slice none 0 0, .slice none 0 0], .int .i64 (4 : Nat)]) (by simp [results, Try.results96, go_sem, c0, c1, d0, d1]) rfl ⟨_, by rw [HE.out], by rw [HE.out, if_neg (by omega), if_neg (by omega)]; exact IsF.zero _, (hB.setCell (p := ⟨w.heap.size, 0, none⟩) (Nat.le_refl _) _).setCell (p := ⟨w.heap.size, 1, none⟩) (Nat.le_refl _) _⟩
    · rw [if_neg hlt, decide_eq_false hlt]
      have HNL := Lib.hid (show ¬ k < (byts s).length by rw [hlen]; exact hlt)
      have HS := Lib.hid (show ¬ (¬ IsNum ((byts s).take k) ∨ (k < (byts s).length ∧ (¬ IsNum ((byts s).drop (k + 1)) ∨ (byts s).drop (k + 1) = [48] ∨ (byts s).drop (k + 1) = [49]))) from fun h => h.elim (fun g => g HIA.out) (fun g => HNL.out g.1))
      have hpd : pfD (byts s) k = 1 := if_neg HNL.out
      have HD0 := Lib.hid (show 0 < pfD (byts s) k by rw [hpd]; omega)
      have HPb : Hid (∀ w_, Calls Try.prog 32 #[.string ⟨#[49]⟩] w_ (RetE w_ (pfD (byts s) k) (fitE (pfD (byts s) k)))) := Lib.hid (fun w_ => by
        have := parse_any (⟨#[49]⟩ : ByteArray) w_ (by decide)
        rw [parseE_eq, show byts (⟨#[49]⟩ : ByteArray) = [49] from rfl, if_pos (show IsNum [49] by decide), show numOf [49] = 1 from rfl] at this
        rw [hpd]
        exact this)
      clear hlt hlen hpd HPb_
      go_wp2_with fail
      refine (HA.out _ true ⟨fun _ => HIA.out, fun _ => rfl⟩).mono ?_
      rintro e w2 ⟨rfl, hw⟩
      subst hw
      go_wp2_with fail
      refine (HPa.out _).mono ?_
      rintro e w3 ⟨v1, rfl, i1, b⟩
      replace kr := kr.below b
      replace hB := nextB hB b
      clear b
      by_cases h1 : fitE (pfN (byts s) k) = 0
      · rw [h1, if_pos rfl] at i1
        rw [h1]
        have H1 := Lib.hid h1
        have HL1 := Lib.hid (fitE_0 h1)
        clear h1
        obtain ⟨ao1, k1, cap1, rfl, x1⟩ := i1.slice
        clear i1
        obtain ⟨b, ka⟩ := pro1 w3 (.slice ao1 k1 cap1)
        obtain ⟨Ra, hRa⟩ : ∃ R, R = w3.heap.size := ⟨_, rfl⟩
        have cc0 := ka.cell
        go_wp2_with fail
        clear cc0
        obtain ⟨w4, hw_⟩ : ∃ w_ : World, w_ = (w3.alloc (.cells #[.slice ao1 k1 cap1] 25)) := ⟨_, rfl⟩
        rw [← hw_] at b ka ⊢
        rw [← hRa] at ka ⊢
        clear hw_ hRa
        replace kr := kr.below b
        replace x1 := x1.below b
        replace hB := nextB hB b
        clear b
        refine (HPb.out _).mono ?_
        rintro e w5 ⟨v2, rfl, i2, b⟩
        replace kr := kr.below b
        replace x1 := x1.below b
        replace ka := ka.below b
        replace hB := nextB hB b
        clear b
        by_cases h2 : fitE (pfD (byts s) k) = 0
        · rw [h2, if_pos rfl] at i2
          rw [h2]
          have HL2 := Lib.hid (fitE_0 h2)
          have HF := Lib.hid (show ¬ (fitE (pfN (byts s) k) ≠ 0 ∨ fitE (pfD (byts s) k) ≠ 0) from fun h => h.elim (fun g => g H1.out) (fun g => g h2))
          clear h2
          obtain ⟨ao2, k2, cap2, rfl, x2⟩ := i2.slice
          clear i2
          obtain ⟨b, kb⟩ := pro1 w5 (.slice ao2 k2 cap2)
          obtain ⟨Rb, hRb⟩ : ∃ R, R = w5.heap.size := ⟨_, rfl⟩
          have cc0 := (ka.below b).cell
          have cc1 := kb.cell
          go_wp2_with fail
          clear cc0 cc1
          obtain ⟨w6, hw_⟩ : ∃ w_ : World, w_ = (w5.alloc (.cells #[.slice ao2 k2 cap2] 25)) := ⟨_, rfl⟩
          rw [← hw_] at b kb ⊢
          rw [← hRb] at kb ⊢
          clear hw_ hRb
          replace kr := kr.below b
          replace x1 := x1.below b
          replace x2 := x2.below b
          replace ka := ka.below b
          replace hB := nextB hB b
          clear b
          refine (gcd_any x1 x2 16384 (by omega) HL1.out HL2.out).mono ?_
          rintro e w7 ⟨v3, rfl, x3, b⟩
          replace kr := kr.below b
          replace x1 := x1.below b
          replace x2 := x2.below b
          replace ka := ka.below b
          replace kb := kb.below b
          replace hB := nextB hB b
          clear b
          go_wp2_with fail
          refine (words_any 1 _ (by omega) (by omega)).mono ?_
          rintro e w8 ⟨v4, rfl, x4, b⟩
          rw [show (1 : Int).toNat = 1 from rfl] at x4
          replace kr := kr.below b
          replace x1 := x1.below b
          replace x2 := x2.below b
          replace ka := ka.below b
          replace kb := kb.below b
          replace x3 := x3.below b
          replace hB := nextB hB b
          clear b
          go_wp2_with fail
          refine (cmp_any x3 x4).mono ?_
          rintro e w9 ⟨rfl, b⟩
          replace kr := kr.below b
          replace x1 := x1.below b
          replace x2 := x2.below b
          replace ka := ka.below b
          replace kb := kb.below b
          replace hB := nextB hB b
          clear b
          clear x3 x4
          by_cases hg : Nat.gcd (pfN (byts s) k) (pfD (byts s) k) = 1
          · have HE := Lib.hid (pfE_ok HS.out HF.out hg)
            rw [hg]
            have hz : ((cmpI 1 1 : Int) != 0) = false := rfl
            have HG := Lib.hid hg
            clear hg
            have cc0 := ka.cell
            have cc1 := kb.cell
            go_wp2_with fail
            clear cc0 cc1 hz
            refine (lowest_any x1 x2 HD0.out 16384 (by omega) HL1.out HL2.out).mono ?_
            rintro e wq ⟨v8, rfl, i8, b⟩
            rw [HG.out, Nat.div_one, Nat.div_one] at i8
            obtain ⟨ao7, k7, cap7, ao8, k8, cap8, rfl, i9, i10, h7⟩ := i8.slice
            clear i8
            replace kr := kr.below b
            replace hB := nextB hB b
            clear b
            have c0 := kr.cell0
            have c1 := kr.cell1
            have f0 := kr.free0
            have f1 := kr.free1
            have kg := kr.set0 (.slice ao7 k7 cap7)
            have d1 := kg.cell1
            have g1 := kg.free1
            have d0 := kg.cell0
            go_wp2
            refine bodyPost_ret (v := .tuple #[.agg #[.slice ao7 k7 cap7, .slice ao8 k8 cap8], .int .i64 (0 : Nat)]) (by simp [results, Try.results96, go_sem, c0, c1, d0, d1]) rfl ⟨_, by rw [HE.out], by rw [HE.out, if_pos rfl, if_pos rfl]; exact IsF.of ((i9.setF kr NoInt.two 0 _).setF kg NoInt.two 1 _) ((i10.setF kr NoInt.two 0 _).setF kg NoInt.two 1 _) h7, (hB.setCell (p := ⟨w.heap.size, 0, none⟩) (Nat.le_refl _) _).setCell (p := ⟨w.heap.size, 1, none⟩) (Nat.le_refl _) _⟩
          · have HG := Lib.hid hg
            have hz : ((cmpI (Nat.gcd (pfN (byts s) k) (pfD (byts s) k)) 1 : Int) != 0) = true := by rw [bne_iff_ne]; exact fun h => by have := cmpI_ne hg; rw [h] at this; cases this
            clear hg
            have HE := Lib.hid (pfE_gcd HS.out HF.out HG.out)
            have c0 := kr.cell0
            have c1 := kr.cell1
            have f0 := kr.free0
            have f1 := kr.free1
            have kg := kr.set0 (.slice none 0 0)
            have d1 := kg.cell1
            have g1 := kg.free1
            have d0 := kg.cell0
            go_wp2
            refine bodyPost_ret (v := .tuple #[.agg #[.slice none 0 0, .slice none 0 0], .int .i64 (4 : Nat)]) (by simp [results, Try.results96, go_sem, c0, c1, d0, d1]) rfl ⟨_, by rw [HE.out], by rw [HE.out, if_neg (by omega), if_neg (by omega)]; exact IsF.zero _, (hB.setCell (p := ⟨w.heap.size, 0, none⟩) (Nat.le_refl _) _).setCell (p := ⟨w.heap.size, 1, none⟩) (Nat.le_refl _) _⟩
        · rw [fitE_3 h2] at i2
          rw [fitE_3 h2]
          have H2 := Lib.hid (fitE_3 h2)
          clear h2
          obtain ⟨ao2, k2, cap2, rfl, x2⟩ := i2.slice
          clear i2
          obtain ⟨b, kb⟩ := pro1 w5 (.slice ao2 k2 cap2)
          obtain ⟨Rb, hRb⟩ : ∃ R, R = w5.heap.size := ⟨_, rfl⟩
          have cc0 := (ka.below b).cell
          have cc1 := kb.cell
          clear cc0 cc1 hRb
          have HE := Lib.hid (pfE_big HS.out (.inr (by rw [H2.out]; omega)))
          replace kr := kr.below b
          replace hB := nextB hB b
          have c0 := kr.cell0
          have c1 := kr.cell1
          have f0 := kr.free0
          have f1 := kr.free1
          have kg := kr.set0 (.slice none 0 0)
          have d1 := kg.cell1
          have g1 := kg.free1
          have d0 := kg.cell0
          go_wp2
          refine bodyPost_ret (v := .tuple #[.agg #[.slice none 0 0, .slice none 0 0], .int .i64 (3 : Nat)]) (by simp [results, Try.results96, go_sem, c0, c1, d0, d1]) rfl ⟨_, by rw [HE.out], by rw [HE.out, if_neg (by omega), if_neg (by omega)]; exact IsF.zero _, (hB.setCell (p := ⟨w.heap.size, 0, none⟩) (Nat.le_refl _) _).setCell (p := ⟨w.heap.size, 1, none⟩) (Nat.le_refl _) _⟩
      · rw [fitE_3 h1] at i1
        rw [fitE_3 h1]
        have H1 := Lib.hid (fitE_3 h1)
        clear h1
        obtain ⟨ao1, k1, cap1, rfl, x1⟩ := i1.slice
        clear i1
        obtain ⟨b, ka⟩ := pro1 w3 (.slice ao1 k1 cap1)
        obtain ⟨Ra, hRa⟩ : ∃ R, R = w3.heap.size := ⟨_, rfl⟩
        have cc0 := ka.cell
        go_wp2_with fail
        clear cc0
        obtain ⟨w4, hw_⟩ : ∃ w_ : World, w_ = (w3.alloc (.cells #[.slice ao1 k1 cap1] 25)) := ⟨_, rfl⟩
        rw [← hw_] at b ka ⊢
        rw [← hRa] at ka ⊢
        clear hw_ hRa
        replace kr := kr.below b
        replace x1 := x1.below b
        replace hB := nextB hB b
        clear b
        refine (HPb.out _).mono ?_
        rintro e w5 ⟨v2, rfl, i2, b⟩
        replace kr := kr.below b
        replace x1 := x1.below b
        replace ka := ka.below b
        replace hB := nextB hB b
        clear b
        obtain ⟨ao2, k2, cap2, rfl, x2⟩ := i2.slice
        clear i2
        obtain ⟨b, kb⟩ := pro1 w5 (.slice ao2 k2 cap2)
        obtain ⟨Rb, hRb⟩ : ∃ R, R = w5.heap.size := ⟨_, rfl⟩
        have cc0 := (ka.below b).cell
        have cc1 := kb.cell
        clear cc0 cc1 hRb
        have HE := Lib.hid (pfE_big HS.out (.inl (by rw [H1.out]; omega)))
        replace kr := kr.below b
        replace hB := nextB hB b
        have c0 := kr.cell0
        have c1 := kr.cell1
        have f0 := kr.free0
        have f1 := kr.free1
        have kg := kr.set0 (.slice none 0 0)
        have d1 := kg.cell1
        have g1 := kg.free1
        have d0 := kg.cell0
        go_wp2
        refine bodyPost_ret (v := .tuple #[.agg #[.slice none 0 0, .slice none 0 0], .int .i64 (3 : Nat)]) (by simp [results, Try.results96, go_sem, c0, c1, d0, d1]) rfl ⟨_, by rw [HE.out], by rw [HE.out, if_neg (by omega), if_neg (by omega)]; exact IsF.zero _, (hB.setCell (p := ⟨w.heap.size, 0, none⟩) (Nat.le_refl _) _).setCell (p := ⟨w.heap.size, 1, none⟩) (Nat.le_refl _) _⟩
  · have HIA := Lib.hid ha
    clear ha
    generalize (if k < s.size then post s k else ByteArray.empty) = tl
    generalize decide (k < s.size) = tw
    go_wp2_with fail
    refine (HA.out _ false ⟨fun h => (by cases h), fun h => absurd h HIA.out⟩).mono ?_
    rintro e w2 ⟨rfl, hw⟩
    subst hw
    have HE := Lib.hid (pfE_syn (.inl HIA.out))
    have c0 := kr.cell0
    have c1 := kr.cell1
    have f0 := kr.free0
    have f1 := kr.free1
    have kg := kr.set0 (.slice none 0 0)
    have d1 := kg.cell1
    have g1 := kg.free1
    have d0 := kg.cell0
    go_wp2
    refine bodyPost_ret (v := .tuple #[.agg #[.slice none 0 0, .slice none 0 0], .int .i64 (4 : Nat)]) (by simp [results, Try.results96, go_sem, c0, c1, d0, d1]) rfl ⟨_, by rw [HE.out], by rw [HE.out, if_neg (by omega), if_neg (by omega)]; exact IsF.zero _, (hB.setCell (p := ⟨w.heap.size, 0, none⟩) (Nat.le_refl _) _).setCell (p := ⟨w.heap.size, 1, none⟩) (Nat.le_refl _) _⟩

end Go.Proofs.Ytppbhjhbaknidaa

/-
  The contract of the specification's ParseFrac. Condition: a string of at most 2^40 bytes.
-/
set_option linter.unusedVariables false
set_option linter.unusedSimpArgs false
namespace Go.Proofs.Ytppbhjhbaknidaa
open Go.RowKit

/-- What the specification's ParseFrac returns: a fraction and an error; with an error the fraction is of no account. -/
def RetGE (w : World) (n d er : Nat) (e : Ending) (w' : World) : Prop := ∃ (ao ao2 : Option Addr) (k cap k2 cap2 : Nat), e = .returned (.tuple #[.agg #[.slice ao k cap, .slice ao2 k2 cap2], .int .i64 er]) ∧ (er = 0 → IsG w' (.agg #[.slice ao k cap, .slice ao2 k2 cap2]) n d) ∧ Below w.heap.size w w'
theorem pre_ext (s : ByteArray) (k : Nat) : s.extract 0 k = pre s k := by
  apply ByteArray.ext
  apply Array.toList_inj.1
  unfold pre
  simp
theorem post_ext (s : ByteArray) (k : Nat) : s.extract (k + 1) s.size = post s k := by
  apply ByteArray.ext
  apply Array.toList_inj.1
  unfold post
  simp [List.take_of_length_le]

set_option maxHeartbeats 16000000 in
set_option maxRecDepth 100000 in
theorem parseFracR_any (s : ByteArray) (w : World) (k : Nat) (hs : s.size ≤ 1099511627776) (hk : Slash (byts s) k) :
    Calls Try.prog 97 #[.string s] w (RetGE w (pfN (byts s) k) (pfD (byts s) k) (pfE (byts s) k)) := by
  obtain ⟨hB, kr⟩ := prog' w (.slice none 0 0) (.slice none 0 0)
  have hlen : (byts s).length = s.size := byts_len s
  have hkle : k ≤ s.size := by have := hk.le; omega
  have HNo := Lib.hid (fun i (hi : i < s.size) (h : i < k) => (show ((s[i].toNat : Int) != 47) = true by have h1 := hk.no i h; rw [byts_nth s hi] at h1; rw [bne_iff_ne]; omega))
  have HAt := Lib.hid (fun (hi : k < s.size) => (show ((s[k].toNat : Int) != 47) = false by have h1 := hk.at_ (by omega); rw [byts_nth s hi] at h1; rw [h1]; rfl))
  have ht := size_pre s k
  have hp := size_post s k
  have htb : byts (pre s k) = (byts s).take k := byts_pre s k
  have hpb : byts (post s k) = (byts s).drop (k + 1) := byts_post s k
  have HA := Lib.hid (fun w_ bo (h : bo = true ↔ IsNum ((byts s).take k)) => numeralR_any (pre s k) w_ (by omega) bo (by rw [htb]; exact h))
  have HBn := Lib.hid (fun w_ bo (h : bo = true ↔ IsNum ((byts s).drop (k + 1))) => numeralR_any (post s k) w_ (by omega) bo (by rw [hpb]; exact h))
  have HPa_ := Lib.hid (fun w_ => parseR_any (pre s k) w_ (by omega))
  have HPb_ := Lib.hid (fun w_ => parseR_any (post s k) w_ (by omega))
  have HPs := Lib.hid (fun w_ => parseR_any s w_ hs)
  rw [htb] at HPa_
  rw [hpb] at HPb_
  have HTB := Lib.hid htb
  have HPB := Lib.hid hpb
  have HEx := Lib.hid (pre_ext s k)
  have HEy := Lib.hid (post_ext s k)
  clear hk ht hp htb hpb
  go_enter Try.func97, Try.ntmps97
  go_wp2
  obtain ⟨wo, hw_⟩ : ∃ w_ : World, w_ = (w.alloc (.cells #[.slice none 0 0, .slice none 0 0] 55)) := ⟨_, rfl⟩
  rw [← hw_] at hB kr ⊢
  clear hw_
  go_loop [4] (fun i => ∃ j : Nat, j ≤ k ∧ i = .int .i64 j) (fun i => k - (intOf i).toNat)
  case atStart => exact ⟨0, Nat.zero_le _, rfl⟩
  case round =>
    obtain ⟨j, hj, rfl⟩ := hrel
    by_cases hjk : j < k
    · have hjs : j < s.size := by omega
      have hne := HNo.out j hjs hjk
      go_wp2
      go_round
      case rel => exact ⟨j + 1, by omega, by go_num⟩
      case measure => simp [intOf]; omega
    · obtain rfl : j = k := by omega
      clear hj hjk
      by_cases hlt : j < s.size
      · have hne := HAt.out hlt
        have HLT := Lib.hid (show j < (byts s).length by omega)
        have hq : ((j : Int) == (s.size : Int)) = false := by rw [beq_eq_false_iff_ne]; omega
        have hw : IntKind.i64.wrap ((j : Int) + 1) = (j : Int) + 1 := IntWalk.i64_in _ (by omega)
        have b1 : (0 : Int) ≤ (j : Int) := by omega
        have b2 : (j : Int) ≤ (s.size : Int) := by omega
        have b3 : (j : Int) + 1 ≤ (s.size : Int) := by omega
        have b4 : (0 : Int) ≤ (j : Int) + 1 := by omega
        have HO1 := Lib.hid (fun w_ => (show Calls Try.prog 67 #[.int .i64 1] w_ (RetR w_ 1) from of_any 1 (by omega) w_))
        go_wp2
        go_quiet (fail)
        go_wp2_with fail
        rw [HEx.out, HEy.out]
        have b := below_drew0 wo nq
        obtain ⟨wd, hw_⟩ : ∃ w_ : World, w_ = wo.drewN nq := ⟨_, rfl⟩
        rw [← hw_] at b ⊢
        clear hw_
        replace kr := kr.below b
        replace hB := nextB hB b
        clear b

        by_cases ha : IsNum ((byts s).take j)
        · have HPa : Hid (∀ w_, Calls Try.prog 33 #[.string (pre s j)] w_ (RetRE w_ (pfN (byts s) j) (fitE (pfN (byts s) j)))) := Lib.hid (fun w_ => by
            have := HPa_.out w_
            rw [parseE_eq, if_pos ha] at this
            exact this)
          have HIA := Lib.hid ha
          clear HPa_ ha
          refine (HA.out _ true ⟨fun _ => HIA.out, fun _ => rfl⟩).mono ?_
          rintro e w2 ⟨rfl, hw⟩
          subst hw
          by_cases hb : IsNum ((byts s).drop (j + 1))
          · have HIB := Lib.hid hb
            clear hb
            go_wp2_with fail
            refine (HBn.out _ true ⟨fun _ => HIB.out, fun _ => rfl⟩).mono ?_
            rintro e w2 ⟨rfl, hw⟩
            subst hw
            by_cases h48 : (byts s).drop (j + 1) = [48]
            · have hx := str_eq (c := 48) (HPB.out.trans h48)
              have H48 := Lib.hid h48
              clear h48
              rw [hx]
              clear hx
              have HE := Lib.hid (pfE_syn (.inr ⟨HLT.out, .inr (.inl H48.out)⟩))
              have c0 := kr.cell0
              have c1 := kr.cell1
              have f0 := kr.free0
              have f1 := kr.free1
              have kg := kr.set0 (.slice none 0 0)
              have d1 := kg.cell1
              have g1 := kg.free1
              have d0 := kg.cell0
              go_wp2
              refine bodyPost_ret (v := .tuple #[.agg #[.slice none 0 0, .slice none 0 0], .int .i64 (4 : Nat)]) (by simp [results, Try.results97, go_sem, c0, c1, d0, d1]) rfl ⟨_, _, _, _, _, _, by rw [HE.out], fun h => by rw [HE.out] at h; omega, (hB.setCell (p := ⟨w.heap.size, 0, none⟩) (Nat.le_refl _) _).setCell (p := ⟨w.heap.size, 1, none⟩) (Nat.le_refl _) _⟩
            · have hx := str_ne (s := post s j) (c := 48) (by rw [HPB.out]; exact h48)
              have hx2 : ((post s j).toList == [48]) = false := by have h := hx; rwa [lit_one] at h
              have H48 := Lib.hid h48
              clear h48
              by_cases h49 : (byts s).drop (j + 1) = [49]
              · have hx := str_eq (c := 49) (HPB.out.trans h49)
                have H49 := Lib.hid h49
                clear h49
                rw [hx]
                clear hx
                have HE := Lib.hid (pfE_syn (.inr ⟨HLT.out, .inr (.inr H49.out)⟩))
                have c0 := kr.cell0
                have c1 := kr.cell1
                have f0 := kr.free0
                have f1 := kr.free1
                have kg := kr.set0 (.slice none 0 0)
                have d1 := kg.cell1
                have g1 := kg.free1
                have d0 := kg.cell0
                go_wp2
                refine bodyPost_ret (v := .tuple #[.agg #[.slice none 0 0, .slice none 0 0], .int .i64 (4 : Nat)]) (by simp [results, Try.results97, go_sem, c0, c1, d0, d1]) rfl ⟨_, _, _, _, _, _, by rw [HE.out], fun h => by rw [HE.out] at h; omega, (hB.setCell (p := ⟨w.heap.size, 0, none⟩) (Nat.le_refl _) _).setCell (p := ⟨w.heap.size, 1, none⟩) (Nat.le_refl _) _⟩
              · have hy := str_ne (s := post s j) (c := 49) (by rw [HPB.out]; exact h49)
                have hy2 : ((post s j).toList == [49]) = false := by have h := hy; rwa [lit_one] at h
                have HS := Lib.hid (show ¬ (¬ IsNum ((byts s).take j) ∨ (j < (byts s).length ∧ (¬ IsNum ((byts s).drop (j + 1)) ∨ (byts s).drop (j + 1) = [48] ∨ (byts s).drop (j + 1) = [49]))) from fun h => h.elim (fun g => g HIA.out) (fun g => g.2.elim (fun g => g HIB.out) (fun g => g.elim H48.out h49)))
                have hpd : pfD (byts s) j = numOf ((byts s).drop (j + 1)) := if_pos HLT.out
                have HD0 := Lib.hid (show 0 < pfD (byts s) j by rw [hpd]; exact pos_num HIB.out H48.out)
                have HPb : Hid (∀ w_, Calls Try.prog 33 #[.string (post s j)] w_ (RetRE w_ (pfD (byts s) j) (fitE (pfD (byts s) j)))) := Lib.hid (fun w_ => by
                  have := HPb_.out w_
                  rw [parseE_eq, if_pos HIB.out, ← hpd] at this
                  exact this)
                clear h49 hpd HPb_
                go_wp2_with fail
                refine (HPa.out _).mono ?_
                rintro e w3 ⟨v1, rfl, i1, b⟩
                replace kr := kr.below b
                replace hB := nextB hB b
                clear b
                go_wp2_with fail
                refine (HPb.out _).mono ?_
                rintro e w5 ⟨v2, rfl, i2, b⟩
                replace kr := kr.below b
                replace i1 := i1.below b
                replace hB := nextB hB b
                clear b
                by_cases h1 : fitE (pfN (byts s) j) = 0
                · rw [h1, if_pos rfl] at i1
                  rw [h1]
                  have H1 := Lib.hid h1
                  have HL1 := Lib.hid (fitE_0 h1)
                  clear h1
                  by_cases h2 : fitE (pfD (byts s) j) = 0
                  · rw [h2, if_pos rfl] at i2
                    rw [h2]
                    have HL2 := Lib.hid (fitE_0 h2)
                    have HF := Lib.hid (show ¬ (fitE (pfN (byts s) j) ≠ 0 ∨ fitE (pfD (byts s) j) ≠ 0) from fun h => h.elim (fun g => g H1.out) (fun g => g h2))
                    clear h2
                    go_wp2_with fail
                    refine (gcdR_any i1 i2 16384 (by omega) HL1.out HL2.out).mono ?_
                    rintro e w7 ⟨v3, rfl, x3, b⟩
                    replace kr := kr.below b
                    replace i1 := i1.below b
                    replace i2 := i2.below b
                    replace hB := nextB hB b
                    clear b
                    go_wp2_with fail
                    refine (HO1.out _).mono ?_
                    rintro e w8 ⟨v4, rfl, x4, b⟩
                    replace kr := kr.below b
                    replace i1 := i1.below b
                    replace i2 := i2.below b
                    replace x3 := x3.below b
                    replace hB := nextB hB b
                    clear b
                    go_wp2_with fail
                    refine (cmpR_any x3 x4).mono ?_
                    rintro e w9 ⟨rfl, b⟩
                    replace kr := kr.below b
                    replace i1 := i1.below b
                    replace i2 := i2.below b
                    replace hB := nextB hB b
                    clear b
                    clear x3 x4
                    by_cases hg : Nat.gcd (pfN (byts s) j) (pfD (byts s) j) = 1
                    · rw [hg]
                      have hz : ((cmpI 1 1 : Int) != 0) = false := rfl
                      have HG := Lib.hid hg
                      clear hg
                      have HE := Lib.hid (pfE_ok HS.out HF.out HG.out)
                      obtain ⟨ao7, k7, cap7, rfl, -⟩ := i1.slice
                      obtain ⟨ao8, k8, cap8, rfl, -⟩ := i2.slice
                      have c0 := kr.cell0
                      have c1 := kr.cell1
                      have f0 := kr.free0
                      have f1 := kr.free1
                      have kg := kr.set0 (.slice ao7 k7 cap7)
                      have d1 := kg.cell1
                      have g1 := kg.free1
                      have d0 := kg.cell0
                      go_wp2
                      refine bodyPost_ret (v := .tuple #[.agg #[.slice ao7 k7 cap7, .slice ao8 k8 cap8], .int .i64 (0 : Nat)]) (by simp [results, Try.results97, go_sem, c0, c1, d0, d1]) rfl ⟨_, _, _, _, _, _, by rw [HE.out], fun _ => IsG.of ((i1.setG kr NoInt.two 0 _).setG kg NoInt.two 1 _) ((i2.setG kr NoInt.two 0 _).setG kg NoInt.two 1 _) HD0.out, (hB.setCell (p := ⟨w.heap.size, 0, none⟩) (Nat.le_refl _) _).setCell (p := ⟨w.heap.size, 1, none⟩) (Nat.le_refl _) _⟩
                    · have HG := Lib.hid hg
                      have hz : ((cmpI (Nat.gcd (pfN (byts s) j) (pfD (byts s) j)) 1 : Int) != 0) = true := by rw [bne_iff_ne]; exact fun h => by have := cmpI_ne hg; rw [h] at this; cases this
                      clear hg
                      have HE := Lib.hid (pfE_gcd HS.out HF.out HG.out)
                      have c0 := kr.cell0
                      have c1 := kr.cell1
                      have f0 := kr.free0
                      have f1 := kr.free1
                      have kg := kr.set0 (.slice none 0 0)
                      have d1 := kg.cell1
                      have g1 := kg.free1
                      have d0 := kg.cell0
                      go_wp2
                      refine bodyPost_ret (v := .tuple #[.agg #[.slice none 0 0, .slice none 0 0], .int .i64 (4 : Nat)]) (by simp [results, Try.results97, go_sem, c0, c1, d0, d1]) rfl ⟨_, _, _, _, _, _, by rw [HE.out], fun h => by rw [HE.out] at h; omega, (hB.setCell (p := ⟨w.heap.size, 0, none⟩) (Nat.le_refl _) _).setCell (p := ⟨w.heap.size, 1, none⟩) (Nat.le_refl _) _⟩
                  · rw [fitE_3 h2]
                    have H2 := Lib.hid (fitE_3 h2)
                    clear h2 i2
                    have HE := Lib.hid (pfE_big HS.out (.inr (by rw [H2.out]; omega)))
                    have c0 := kr.cell0
                    have c1 := kr.cell1
                    have f0 := kr.free0
                    have f1 := kr.free1
                    have kg := kr.set0 (.slice none 0 0)
                    have d1 := kg.cell1
                    have g1 := kg.free1
                    have d0 := kg.cell0
                    go_wp2
                    refine bodyPost_ret (v := .tuple #[.agg #[.slice none 0 0, .slice none 0 0], .int .i64 (3 : Nat)]) (by simp [results, Try.results97, go_sem, c0, c1, d0, d1]) rfl ⟨_, _, _, _, _, _, by rw [HE.out], fun h => by rw [HE.out] at h; omega, (hB.setCell (p := ⟨w.heap.size, 0, none⟩) (Nat.le_refl _) _).setCell (p := ⟨w.heap.size, 1, none⟩) (Nat.le_refl _) _⟩
                · rw [fitE_3 h1]
                  have H1 := Lib.hid (fitE_3 h1)
                  clear h1 i1 i2
                  have HE := Lib.hid (pfE_big HS.out (.inl (by rw [H1.out]; omega)))
                  have c0 := kr.cell0
                  have c1 := kr.cell1
                  have f0 := kr.free0
                  have f1 := kr.free1
                  have kg := kr.set0 (.slice none 0 0)
                  have d1 := kg.cell1
                  have g1 := kg.free1
                  have d0 := kg.cell0
                  go_wp2
                  refine bodyPost_ret (v := .tuple #[.agg #[.slice none 0 0, .slice none 0 0], .int .i64 (3 : Nat)]) (by simp [results, Try.results97, go_sem, c0, c1, d0, d1]) rfl ⟨_, _, _, _, _, _, by rw [HE.out], fun h => by rw [HE.out] at h; omega, (hB.setCell (p := ⟨w.heap.size, 0, none⟩) (Nat.le_refl _) _).setCell (p := ⟨w.heap.size, 1, none⟩) (Nat.le_refl _) _⟩
          · have HIB := Lib.hid hb
            clear hb
            go_wp2_with fail
            refine (HBn.out _ false ⟨fun h => (by cases h), fun h => absurd h HIB.out⟩).mono ?_
            rintro e w2 ⟨rfl, hw⟩
            subst hw
            have HE := Lib.hid (pfE_syn (.inr ⟨HLT.out, .inl HIB.out⟩))
            have c0 := kr.cell0
            have c1 := kr.cell1
            have f0 := kr.free0
            have f1 := kr.free1
            have kg := kr.set0 (.slice none 0 0)
            have d1 := kg.cell1
            have g1 := kg.free1
            have d0 := kg.cell0
            go_wp2
            refine bodyPost_ret (v := .tuple #[.agg #[.slice none 0 0, .slice none 0 0], .int .i64 (4 : Nat)]) (by simp [results, Try.results97, go_sem, c0, c1, d0, d1]) rfl ⟨_, _, _, _, _, _, by rw [HE.out], fun h => by rw [HE.out] at h; omega, (hB.setCell (p := ⟨w.heap.size, 0, none⟩) (Nat.le_refl _) _).setCell (p := ⟨w.heap.size, 1, none⟩) (Nat.le_refl _) _⟩
        · have HIA := Lib.hid ha
          clear ha
          refine (HA.out _ false ⟨fun h => (by cases h), fun h => absurd h HIA.out⟩).mono ?_
          rintro e w2 ⟨rfl, hw⟩
          subst hw
          have HE := Lib.hid (pfE_syn (.inl HIA.out))
          have c0 := kr.cell0
          have c1 := kr.cell1
          have f0 := kr.free0
          have f1 := kr.free1
          have kg := kr.set0 (.slice none 0 0)
          have d1 := kg.cell1
          have g1 := kg.free1
          have d0 := kg.cell0
          go_wp2
          refine bodyPost_ret (v := .tuple #[.agg #[.slice none 0 0, .slice none 0 0], .int .i64 (4 : Nat)]) (by simp [results, Try.results97, go_sem, c0, c1, d0, d1]) rfl ⟨_, _, _, _, _, _, by rw [HE.out], fun h => by rw [HE.out] at h; omega, (hB.setCell (p := ⟨w.heap.size, 0, none⟩) (Nat.le_refl _) _).setCell (p := ⟨w.heap.size, 1, none⟩) (Nat.le_refl _) _⟩
      · have HNL := Lib.hid (show ¬ j < (byts s).length by omega)
        have hjs : j = s.size := by omega
        have HTK : Hid ((byts s).take j = byts s) := Lib.hid (List.take_of_length_le (by omega))
        have hpd : pfD (byts s) j = 1 := if_neg HNL.out
        have hpn : pfN (byts s) j = numOf (byts s) := by unfold pfN; rw [HTK.out]
        have HD0 := Lib.hid (show 0 < pfD (byts s) j by rw [hpd]; omega)
        have HPD := Lib.hid hpd
        have HPN := Lib.hid hpn
        have HO1 := Lib.hid (fun w_ => (show Calls Try.prog 67 #[.int .i64 1] w_ (RetR w_ 1) from of_any 1 (by omega) w_))
        clear hpd hpn HAt HNo
        have hq : ((j : Int) == (s.size : Int)) = true := by rw [beq_iff_eq]; omega
        have hq2 : ((s.size : Int) == (s.size : Int)) = true := by rw [beq_iff_eq]
        have hd : decide ((j : Int) < (s.size : Int)) = false := decide_eq_false (by omega)
        have hd2 : decide ((s.size : Int) < (s.size : Int)) = false := decide_eq_false (by omega)
        clear hjs
        go_wp2_with fail
        clear hq hq2 hd hd2
        refine (HPs.out _).mono ?_
        rintro e w3 ⟨v1, rfl, i1, b⟩
        replace kr := kr.below b
        replace hB := nextB hB b
        clear b
        by_cases ha : IsNum (byts s)
        · rw [parseE_eq, if_pos ha] at i1
          rw [parseE_eq, if_pos ha]
          have HS := Lib.hid (show ¬ (¬ IsNum ((byts s).take j) ∨ (j < (byts s).length ∧ (¬ IsNum ((byts s).drop (j + 1)) ∨ (byts s).drop (j + 1) = [48] ∨ (byts s).drop (j + 1) = [49]))) from fun h => h.elim (fun g => g (by rw [HTK.out]; exact ha)) (fun g => HNL.out g.1))
          clear ha
          by_cases h1 : fitE (numOf (byts s)) = 0
          · rw [h1, if_pos rfl] at i1
            rw [h1]
            have H1 := Lib.hid h1
            have i3 : IsR w3 v1 (pfN (byts s) j) := by rw [HPN.out]; exact i1
            clear h1 i1
            go_wp2_with fail
            refine (HO1.out _).mono ?_
            rintro e w8 ⟨v4, rfl, i4, b⟩
            replace kr := kr.below b
            replace i3 := i3.below b
            replace hB := nextB hB b
            clear b
            have i2 : IsR w8 v4 (pfD (byts s) j) := by rw [HPD.out]; exact i4
            clear i4
            have HE := Lib.hid (pfE_ok HS.out (fun h => h.elim (fun g => g (by rw [HPN.out]; exact H1.out)) (fun g => g (by rw [HPD.out]; exact fitE_1))) (by rw [HPD.out]; exact Nat.gcd_one_right _))
            obtain ⟨ao7, k7, cap7, rfl, -⟩ := i3.slice
            obtain ⟨ao8, k8, cap8, rfl, -⟩ := i2.slice
            have c0 := kr.cell0
            have c1 := kr.cell1
            have f0 := kr.free0
            have f1 := kr.free1
            have kg := kr.set0 (.slice ao7 k7 cap7)
            have d1 := kg.cell1
            have g1 := kg.free1
            have d0 := kg.cell0
            go_wp2
            refine bodyPost_ret (v := .tuple #[.agg #[.slice ao7 k7 cap7, .slice ao8 k8 cap8], .int .i64 (0 : Nat)]) (by simp [results, Try.results97, go_sem, c0, c1, d0, d1]) rfl ⟨_, _, _, _, _, _, by rw [HE.out], fun _ => IsG.of ((i3.setG kr NoInt.two 0 _).setG kg NoInt.two 1 _) ((i2.setG kr NoInt.two 0 _).setG kg NoInt.two 1 _) HD0.out, (hB.setCell (p := ⟨w.heap.size, 0, none⟩) (Nat.le_refl _) _).setCell (p := ⟨w.heap.size, 1, none⟩) (Nat.le_refl _) _⟩
          · rw [fitE_3 h1]
            have H1 := Lib.hid (fitE_3 h1)
            clear h1 i1
            have HE := Lib.hid (pfE_big HS.out (.inl (by rw [HPN.out, H1.out]; omega)))
            have c0 := kr.cell0
            have c1 := kr.cell1
            have f0 := kr.free0
            have f1 := kr.free1
            have kg := kr.set0 (.slice none 0 0)
            have d1 := kg.cell1
            have g1 := kg.free1
            have d0 := kg.cell0
            go_wp2
            refine bodyPost_ret (v := .tuple #[.agg #[.slice none 0 0, .slice none 0 0], .int .i64 (3 : Nat)]) (by simp [results, Try.results97, go_sem, c0, c1, d0, d1]) rfl ⟨_, _, _, _, _, _, by rw [HE.out], fun h => by rw [HE.out] at h; omega, (hB.setCell (p := ⟨w.heap.size, 0, none⟩) (Nat.le_refl _) _).setCell (p := ⟨w.heap.size, 1, none⟩) (Nat.le_refl _) _⟩
        · rw [parseE_eq, if_neg ha]
          have HIA := Lib.hid ha
          clear ha i1
          have HE := Lib.hid (pfE_syn (.inl (by rw [HTK.out]; exact HIA.out)))
          have c0 := kr.cell0
          have c1 := kr.cell1
          have f0 := kr.free0
          have f1 := kr.free1
          have kg := kr.set0 (.slice none 0 0)
          have d1 := kg.cell1
          have g1 := kg.free1
          have d0 := kg.cell0
          go_wp2
          refine bodyPost_ret (v := .tuple #[.agg #[.slice none 0 0, .slice none 0 0], .int .i64 (4 : Nat)]) (by simp [results, Try.results97, go_sem, c0, c1, d0, d1]) rfl ⟨_, _, _, _, _, _, by rw [HE.out], fun h => by rw [HE.out] at h; omega, (hB.setCell (p := ⟨w.heap.size, 0, none⟩) (Nat.le_refl _) _).setCell (p := ⟨w.heap.size, 1, none⟩) (Nat.le_refl _) _⟩

end Go.Proofs.Ytppbhjhbaknidaa

/-
  The walk of the law NatFracTexts. Condition: the library variable internal/bytealg.MaxLen holds some int.
-/
set_option linter.unusedVariables false
set_option linter.unusedSimpArgs false
namespace Go.Proofs.Ytppbhjhbaknidaa
open Go.RowKit

theorem pfE_bd {l : List Nat} {k : Nat} (h : pfE l k = 0) : pfN l k < P2 16384 ∧ pfD l k < P2 16384 := by
  unfold pfE at h
  split at h
  · cases h
  · split at h
    · cases h
    · rename_i g
      exact ⟨fitE_0 (Classical.byContradiction fun e => g (.inl e)), fitE_0 (Classical.byContradiction fun e => g (.inr e))⟩
theorem pfE_lt (l : List Nat) (k : Nat) : pfE l k < 1000 := by
  unfold pfE
  split
  · omega
  · split
    · omega
    · split <;> omega

set_option maxHeartbeats 16000000 in
set_option maxRecDepth 100000 in
theorem NatFracTexts_walk (s : ByteArray) (w : World) (hs : s.size ≤ 9223372036854775807) (hm : MaxV w) :
    Calls Try.prog 29 #[.string s] w (RetB w true) := by
  have hB := Below.refl w.heap.size w
  go_enter Try.func29, Try.ntmps29
  by_cases h3 : 3000 < s.size
  · have hd : decide ((3000 : Int) < (s.size : Int)) = true := decide_eq_true (by omega)
    go_wp2_with fail
    refine (awake_any _).mono ?_
    rintro e w1 ⟨rfl, b⟩
    replace hB := nextB hB b
    clear b
    go_wp2
    go_ret
    exact ⟨rfl, hB⟩
  · have hd : decide ((3000 : Int) < (s.size : Int)) = false := decide_eq_false (by omega)
    obtain ⟨k, hk⟩ := slash_ex (byts s)
    have HP := Lib.hid (fun w_ (h : MaxV w_) => parseFrac_any s w_ k (by omega) hk h)
    have HQ := Lib.hid (fun w_ => parseFracR_any s w_ k (by omega) hk)
    clear hk hs h3
    by_cases h0 : pfE (byts s) k = 0
    · have HB := Lib.hid (pfE_bd h0)
      rw [h0] at HP HQ
      clear h0
      go_wp2_with fail
      refine (HP.out _ hm).mono ?_
      rintro e w1 ⟨v_, rfl, j_, b⟩
      rw [if_pos rfl, if_pos rfl] at j_
      replace hB := nextB hB b
      replace hm := hm.below b
      clear b
      clear hm
      have ff := j_
      obtain ⟨aof, qf, capf, aof2, qf2, capf2, rfl, -, -, -⟩ := ff.slice
      clear j_
      obtain ⟨b, kf⟩ := prof w1 (.slice aof qf capf) (.slice aof2 qf2 capf2)
      obtain ⟨Rf, hRf⟩ : ∃ R, R = w1.heap.size := ⟨_, rfl⟩
      have hlef : w.heap.size ≤ Rf := by rw [hRf]; exact hB.size
      have cc0 := kf.cell0
      have cc1 := kf.cell1
      go_wp2_with fail
      obtain ⟨w2, hw⟩ : ∃ w_ : World, w_ = (w1.alloc (.cells #[.slice aof qf capf, .slice aof2 qf2 capf2] 50)) := ⟨_, rfl⟩
      rw [← hw] at b kf ⊢
      rw [← hRf] at kf ⊢
      clear hw hRf cc0 cc1
      replace hB := nextB hB b
      replace ff := ff.below b
      clear b
      refine (HQ.out _).mono ?_
      rintro e w3 ⟨aog, aog2, qg, capg, qg2, capg2, rfl, jg, b⟩
      replace hB := nextB hB b
      replace ff := ff.below b
      replace kf := kf.below b
      clear b
      have fg := jg rfl
      clear jg
      obtain ⟨b, kg⟩ := prog' w3 (.slice aog qg capg) (.slice aog2 qg2 capg2)
      obtain ⟨Rg, hRg⟩ : ∃ R, R = w3.heap.size := ⟨_, rfl⟩
      have cc0 := (kf.below b).cell0
      have cc1 := (kf.below b).cell1
      have cc2 := kg.cell0
      have cc3 := kg.cell1
      go_wp2_with fail
      obtain ⟨w4, hw⟩ : ∃ w_ : World, w_ = (w3.alloc (.cells #[.slice aog qg capg, .slice aog2 qg2 capg2] 55)) := ⟨_, rfl⟩
      rw [← hw] at b kg ⊢
      rw [← hRg] at kg ⊢
      clear hw hRg cc0 cc1 cc2 cc3
      replace hB := nextB hB b
      replace ff := ff.below b
      replace kf := kf.below b
      replace fg := fg.below b
      clear b
      refine (same_ok ff fg 16384 (by omega) HB.out.1 HB.out.2).mono ?_
      rintro e w5 ⟨rfl, b⟩
      replace hB := nextB hB b
      replace ff := ff.below b
      replace kf := kf.below b
      replace fg := fg.below b
      replace kg := kg.below b
      clear b
      have cc0 := kf.cell0
      have cc1 := kf.cell1
      have cc2 := kg.cell0
      have cc3 := kg.cell1
      go_wp2_with fail
      clear cc0 cc1 cc2 cc3
      refine (awake_any _).mono ?_
      rintro e w6 ⟨rfl, b⟩
      replace hB := nextB hB b
      replace ff := ff.below b
      replace kf := kf.below b
      replace fg := fg.below b
      replace kg := kg.below b
      clear b
      go_wp2
      go_ret
      exact ⟨rfl, hB⟩
    · have HE := Lib.hid (pfE_lt (byts s) k)
      generalize pfE (byts s) k = er at *
      have HN0 := Lib.hid h0
      clear h0
      go_wp2_with fail
      refine (HP.out _ hm).mono ?_
      rintro e w1 ⟨v_, rfl, j_, b⟩
      rw [if_neg HN0.out, if_neg HN0.out] at j_
      replace hB := nextB hB b
      replace hm := hm.below b
      clear b
      clear hm
      have ff := j_
      obtain ⟨aof, qf, capf, aof2, qf2, capf2, rfl, -, -, -⟩ := ff.slice
      clear j_
      obtain ⟨b, kf⟩ := prof w1 (.slice aof qf capf) (.slice aof2 qf2 capf2)
      obtain ⟨Rf, hRf⟩ : ∃ R, R = w1.heap.size := ⟨_, rfl⟩
      have hlef : w.heap.size ≤ Rf := by rw [hRf]; exact hB.size
      have cc0 := kf.cell0
      have cc1 := kf.cell1
      go_wp2_with fail
      obtain ⟨w2, hw⟩ : ∃ w_ : World, w_ = (w1.alloc (.cells #[.slice aof qf capf, .slice aof2 qf2 capf2] 50)) := ⟨_, rfl⟩
      rw [← hw] at b kf ⊢
      rw [← hRf] at kf ⊢
      clear hw hRf cc0 cc1
      replace hB := nextB hB b
      replace ff := ff.below b
      clear b
      refine (HQ.out _).mono ?_
      rintro e w3 ⟨aog, aog2, qg, capg, qg2, capg2, rfl, jg, b⟩
      replace hB := nextB hB b
      replace ff := ff.below b
      replace kf := kf.below b
      clear b
      clear jg
      obtain ⟨b, kg⟩ := prog' w3 (.slice aog qg capg) (.slice aog2 qg2 capg2)
      obtain ⟨Rg, hRg⟩ : ∃ R, R = w3.heap.size := ⟨_, rfl⟩
      have cc0 := (kf.below b).cell0
      have cc1 := (kf.below b).cell1
      have cc2 := kg.cell0
      have cc3 := kg.cell1
      go_wp2_with fail
      obtain ⟨w4, hw⟩ : ∃ w_ : World, w_ = (w3.alloc (.cells #[.slice aog qg capg, .slice aog2 qg2 capg2] 55)) := ⟨_, rfl⟩
      rw [← hw] at b kg ⊢
      rw [← hRg] at kg ⊢
      clear hw hRg cc0 cc1 cc2 cc3
      replace hB := nextB hB b
      replace ff := ff.below b
      replace kf := kf.below b
      clear b
      refine (same_err ff HN0.out HE.out _ _ _ _ _ _).mono ?_
      rintro e w5 ⟨rfl, b⟩
      replace hB := nextB hB b
      replace ff := ff.below b
      replace kf := kf.below b
      replace kg := kg.below b
      clear b
      have cc0 := kf.cell0
      have cc1 := kf.cell1
      have cc2 := kg.cell0
      have cc3 := kg.cell1
      go_wp2_with fail
      clear cc0 cc1 cc2 cc3
      refine (awake_any _).mono ?_
      rintro e w6 ⟨rfl, b⟩
      replace hB := nextB hB b
      replace ff := ff.below b
      replace kf := kf.below b
      replace kg := kg.below b
      clear b
      go_wp2
      go_ret
      exact ⟨rfl, hB⟩

end Go.Proofs.Ytppbhjhbaknidaa
