/-
  The contracts of the program's numeral and of the specification's Numeral. Condition: strings of at most 2^40 bytes.
-/
import Derived.Test.YtppbhjhbaknidaaRefF
namespace Go.Proofs.Ytppbhjhbaknidaa
open Go.RowKit

/-- The bytes of a string, as numbers. -/
def byts (s : ByteArray) : List Nat := s.data.toList.map UInt8.toNat
theorem byts_len (s : ByteArray) : (byts s).length = s.size := by
  unfold byts; rw [List.length_map, Lib.size_eq]
theorem byts_nth (s : ByteArray) {k : Nat} (h : k < s.size) : nth (byts s) k = s[k].toNat := by
  rw [nth_lt (by rw [byts_len]; exact h)]
  simp [byts, ByteArray.getElem_eq_getElem_data]
theorem bstr_byts (s : ByteArray) : bstr (byts s) = s := by
  have h : (UInt8.ofNat ∘ UInt8.toNat) = id := by
    funext x; simp
  unfold bstr byts
  rw [List.map_map, h, List.map_id]
theorem byts_bstr {zs : List Nat} (h : ∀ x ∈ zs, x < 256) : byts (bstr zs) = zs := by
  simp only [bstr, byts, List.map_map]
  conv => rhs; rw [← List.map_id zs]
  apply List.map_congr_left
  intro x hx
  simp [Nat.mod_eq_of_lt (h x hx)]

theorem size_zero_iff (s : ByteArray) : s.size = 0 ↔ s.toList = [] := by
  rw [ByteArray.toList_eq, Lib.size_eq, List.length_eq_zero_iff]

def Digit (x : Nat) : Prop := 48 ≤ x ∧ x ≤ 57
/-- These bytes are a numeral. -/
def IsNum (l : List Nat) : Prop := l ≠ [] ∧ ¬ (nth l 0 = 48 ∧ 1 < l.length) ∧ ∀ i, i < l.length → Digit (nth l i)

set_option maxHeartbeats 1000000 in
theorem numeral_any (s : ByteArray) (w : World) (hs : s.size ≤ 1099511627776) (b : Bool) (hb : b = true ↔ IsNum (byts s)) :
    Calls Try.prog 98 #[.string s] w fun e w' => e = .returned (.bool b) ∧ w' = w := by
  have HB := Lib.hid hb
  clear hb
  have he := size_zero_iff s
  by_cases h0 : s.size = 0
  · have hb0 : b = false := by
      cases b with
      | false => rfl
      | true => exact absurd (List.length_eq_zero_iff.1 (by rw [byts_len, h0])) (HB.out.1 rfl).1
    subst hb0
    have he1 := he.1 h0
    clear he HB
    have he2 : s.toList.isEmpty = true := by rw [he1]; rfl
    go_enter Try.func98, Try.ntmps98
    go_wp2
    go_ret
    exact ⟨rfl, rfl⟩
  · have he1 : ¬ s.toList = [] := fun h => h0 (he.2 h)
    have he2 : s.toList.isEmpty = false := by rw [List.isEmpty_eq_false_iff]; exact he1
    clear he
    have hs0 : 0 < s.size := by omega
    have hn0 := byts_nth s hs0
    by_cases h1 : s[0].toNat = 48 ∧ 1 < s.size
    · have hb0 : b = false := by
        cases b with
        | false => rfl
        | true => exact absurd ⟨by rw [hn0]; exact h1.1, by rw [byts_len]; exact h1.2⟩ (HB.out.1 rfl).2.1
      subst hb0
      clear HB hn0
      obtain ⟨h1, h2⟩ := h1
      have h3 : ((s[0].toNat : Int) == 48) = true := by rw [beq_iff_eq]; omega
      clear h1
      go_enter Try.func98, Try.ntmps98
      go_wp2
      go_ret
      exact ⟨rfl, rfl⟩
    · have HB2 : Hid (b = true ↔ ∀ i, i < s.size → Digit (nth (byts s) i)) := Lib.hid (by
        rw [HB.out]
        refine ⟨fun h i hi => h.2.2 i (by rw [byts_len]; exact hi), fun h => ⟨fun he => ?_, ?_, fun i hi => h i (by rw [← byts_len]; exact hi)⟩⟩
        · have := byts_len s
          rw [he] at this
          simp at this
          omega
        · rw [hn0, byts_len]; exact h1)
      clear HB hn0
      have h3 : ((s[0].toNat : Int) == 48) = true ∧ s.size = 1 ∨ ((s[0].toNat : Int) == 48) = false := by
        by_cases h : s[0].toNat = 48
        · exact .inl ⟨by rw [beq_iff_eq]; omega, by omega⟩
        · exact .inr (by rw [beq_eq_false_iff_ne]; omega)
      clear h1
      rcases h3 with ⟨h3, h4⟩ | h3
      all_goals
        go_enter Try.func98, Try.ntmps98
        go_wp2
        go_loop [3, 18] (fun _ i => ∃ k : Nat, k ≤ s.size ∧ i = .int .i64 k ∧ Hid (∀ i, i < k → Digit (nth (byts s) i))) (fun _ i => s.size - (intOf i).toNat)
        case atStart => exact ⟨0, Nat.zero_le _, rfl, Lib.hid fun i hi => by omega⟩
        case round =>
          obtain ⟨k, hk, rfl, hg⟩ := hrel
          by_cases hlt : k < s.size
          · have hn := byts_nth s hlt
            by_cases hd : Digit (nth (byts s) k)
            · have HG : Hid (∀ i, i < k + 1 → Digit (nth (byts s) i)) := Lib.hid fun i hi => by
                by_cases h : i = k
                · rw [h]; exact hd
                · exact hg.out i (by omega)
              rw [hn] at hd
              obtain ⟨d1, d2⟩ := hd
              clear hn
              go_wp2
              go_round
              case rel => exact ⟨k + 1, by omega, by go_num, HG⟩
              case measure => simp [intOf]; omega
            · have hb0 : b = false := by
                cases b with
                | false => rfl
                | true => exact absurd (HB2.out.1 rfl k hlt) hd
              subst hb0
              rw [hn] at hd
              have hd' : s[k].toNat < 48 ∨ (48 ≤ s[k].toNat ∧ 57 < s[k].toNat) := by
                unfold Digit at hd; omega
              clear hn hd
              rcases hd' with hd | ⟨hd, hd2⟩
              all_goals
                go_wp2
                go_ret
                exact ⟨rfl, rfl⟩
          · have hb1 : b = true := HB2.out.2 fun i hi => hg.out i (by omega)
            subst hb1
            go_wp2
            go_ret
            exact ⟨rfl, rfl⟩

set_option maxHeartbeats 1000000 in
theorem numeralR_any (s : ByteArray) (w : World) (hs : s.size ≤ 1099511627776) (b : Bool) (hb : b = true ↔ IsNum (byts s)) :
    Calls Try.prog 103 #[.string s] w fun e w' => e = .returned (.bool b) ∧ w' = w := by
  have HB := Lib.hid hb
  clear hb
  have he := size_zero_iff s
  by_cases h0 : s.size = 0
  · have hb0 : b = false := by
      cases b with
      | false => rfl
      | true => exact absurd (List.length_eq_zero_iff.1 (by rw [byts_len, h0])) (HB.out.1 rfl).1
    subst hb0
    have he1 := he.1 h0
    clear he HB
    have he2 : s.toList.isEmpty = true := by rw [he1]; rfl
    go_enter Try.func103, Try.ntmps103
    go_wp2
    go_ret
    exact ⟨rfl, rfl⟩
  · have he1 : ¬ s.toList = [] := fun h => h0 (he.2 h)
    have he2 : s.toList.isEmpty = false := by rw [List.isEmpty_eq_false_iff]; exact he1
    clear he
    have hs0 : 0 < s.size := by omega
    have hn0 := byts_nth s hs0
    by_cases h1 : s[0].toNat = 48 ∧ 1 < s.size
    · have hb0 : b = false := by
        cases b with
        | false => rfl
        | true => exact absurd ⟨by rw [hn0]; exact h1.1, by rw [byts_len]; exact h1.2⟩ (HB.out.1 rfl).2.1
      subst hb0
      clear HB hn0
      obtain ⟨h1, h2⟩ := h1
      have h3 : ((s[0].toNat : Int) == 48) = true := by rw [beq_iff_eq]; omega
      clear h1
      go_enter Try.func103, Try.ntmps103
      go_wp2
      go_ret
      exact ⟨rfl, rfl⟩
    · have HB2 : Hid (b = true ↔ ∀ i, i < s.size → Digit (nth (byts s) i)) := Lib.hid (by
        rw [HB.out]
        refine ⟨fun h i hi => h.2.2 i (by rw [byts_len]; exact hi), fun h => ⟨fun he => ?_, ?_, fun i hi => h i (by rw [← byts_len]; exact hi)⟩⟩
        · have := byts_len s
          rw [he] at this
          simp at this
          omega
        · rw [hn0, byts_len]; exact h1)
      clear HB hn0
      have h3 : ((s[0].toNat : Int) == 48) = true ∧ s.size = 1 ∨ ((s[0].toNat : Int) == 48) = false ∧ s.size ≤ 1 ∨ ((s[0].toNat : Int) == 48) = false ∧ 1 < s.size := by
        by_cases h : s[0].toNat = 48
        · exact .inl ⟨by rw [beq_iff_eq]; omega, by omega⟩
        · by_cases hq : s.size ≤ 1
          · exact .inr (.inl ⟨by rw [beq_eq_false_iff_ne]; omega, hq⟩)
          · exact .inr (.inr ⟨by rw [beq_eq_false_iff_ne]; omega, by omega⟩)
      clear h1
      rcases h3 with ⟨h3, h4⟩ | ⟨h3, h4⟩ | ⟨h3, h4⟩
      all_goals
        go_enter Try.func103, Try.ntmps103
        go_wp2
        go_loop [3] (fun i => ∃ k : Nat, k ≤ s.size ∧ i = .int .i64 k ∧ Hid (∀ i, i < k → Digit (nth (byts s) i))) (fun i => s.size - (intOf i).toNat)
        case atStart => exact ⟨0, Nat.zero_le _, rfl, Lib.hid fun i hi => by omega⟩
        case round =>
          obtain ⟨k, hk, rfl, hg⟩ := hrel
          by_cases hlt : k < s.size
          · have hn := byts_nth s hlt
            by_cases hd : Digit (nth (byts s) k)
            · have HG : Hid (∀ i, i < k + 1 → Digit (nth (byts s) i)) := Lib.hid fun i hi => by
                by_cases h : i = k
                · rw [h]; exact hd
                · exact hg.out i (by omega)
              rw [hn] at hd
              obtain ⟨d1, d2⟩ := hd
              clear hn
              go_wp2
              go_round
              case rel => exact ⟨k + 1, by omega, by go_num, HG⟩
              case measure => simp [intOf]; omega
            · have hb0 : b = false := by
                cases b with
                | false => rfl
                | true => exact absurd (HB2.out.1 rfl k hlt) hd
              subst hb0
              rw [hn] at hd
              have hd' : s[k].toNat < 48 ∨ (48 ≤ s[k].toNat ∧ 57 < s[k].toNat) := by
                unfold Digit at hd; omega
              clear hn hd
              rcases hd' with hd | ⟨hd, hd2⟩
              all_goals
                go_wp2
                go_ret
                exact ⟨rfl, rfl⟩
          · have hb1 : b = true := HB2.out.2 fun i hi => hg.out i (by omega)
            subst hb1
            go_wp2
            go_ret
            exact ⟨rfl, rfl⟩

end Go.Proofs.Ytppbhjhbaknidaa
