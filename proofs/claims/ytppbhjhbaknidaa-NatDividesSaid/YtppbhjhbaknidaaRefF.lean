/-
  The contract of the specification's Text: the numeral. Condition: numbers of at most 2^30 bits.
-/
import Derived.Test.YtppbhjhbaknidaaStr
namespace Go.Proofs.Ytppbhjhbaknidaa
open Go.RowKit

def RetS (w : World) (s : ByteArray) (e : Ending) (w' : World) : Prop := e = .returned (.string s) ∧ Below w.heap.size w w'

theorem wf_u8 {n : Nat} (h : n < 256) : (Lit.int .u8 (n : Int)).wf = true := WalkArith.wf_u8 ⟨by omega, by omega⟩

/-- What the exchange of j places at either end makes of zs. -/
structure Flip (zs ys : List Nat) (j : Nat) : Prop where
  len : ys.length = zs.length
  at_ : ∀ t, t < zs.length → nth ys t = if t < j ∨ zs.length ≤ t + j then nth zs (zs.length - 1 - t) else nth zs t

theorem Flip.zero (zs : List Nat) : Flip zs zs 0 := ⟨rfl, fun t ht => by rw [if_neg (by omega)]⟩

theorem Flip.step {zs ys : List Nat} {j k : Nat} (h : Flip zs ys j) (hk : j + k + 1 = zs.length) (hjk : j < k) : Flip zs ((ys.set j (nth ys k)).set k (nth ys j)) (j + 1) := by
  refine ⟨by rw [List.length_set, List.length_set, h.len], fun t ht => ?_⟩
  have hj := h.at_ j (by omega)
  have hk2 := h.at_ k (by omega)
  rw [if_neg (by omega)] at hj hk2
  by_cases h1 : t = k
  · subst h1
    rw [nth_set_eq _ _ _ (by rw [List.length_set, h.len]; omega), hj, if_pos (by omega)]
    congr 1; omega
  · rw [nth_set_ne _ _ _ _ (by omega)]
    by_cases h2 : t = j
    · subst h2
      rw [nth_set_eq _ _ _ (by rw [h.len]; omega), hk2, if_pos (by omega)]
      congr 1; omega
    · rw [nth_set_ne _ _ _ _ (by omega), h.at_ t ht]
      by_cases h3 : t < j ∨ zs.length ≤ t + j
      · rw [if_pos h3, if_pos (by omega)]
      · rw [if_neg h3, if_neg (by omega)]

theorem nth_reverse (zs : List Nat) (t : Nat) (ht : t < zs.length) : nth zs.reverse t = nth zs (zs.length - 1 - t) := by
  rw [nth_lt (by simpa using ht), List.getElem_reverse, nth_lt (by omega)]

theorem Flip.done {zs ys : List Nat} {j : Nat} (h : Flip zs ys j) (hj : zs.length ≤ j + j + 1) : ys = zs.reverse := by
  apply list_ext_nth (by rw [h.len, List.length_reverse])
  intro t ht
  rw [h.len] at ht
  rw [nth_reverse zs t ht, h.at_ t ht]
  by_cases h3 : t < j ∨ zs.length ≤ t + j
  · rw [if_pos h3]
  · rw [if_neg h3]
    congr 1; omega

theorem Row.opn {w : World} {B : Nat} {K : IntKind} {E : TypeId} {v : Value} {xs : List Nat} (h : Row w B K E v xs) (q : Nat) (hq : q = xs.length) (h1 : 1 ≤ q) :
    ∃ g cap, v = .slice (some ⟨g, 0, none⟩) q cap ∧ B ≤ g ∧ q ≤ cap ∧ cap ≤ 9223372036854775807 := by
  subst hq
  rcases h.2 with ⟨_, h⟩ | ⟨g, cap, cur, hv, hB, _, hc, hm, _⟩
  · omega
  · exact ⟨g, cap, hv, hB, hc, hm⟩

set_option maxHeartbeats 1000000 in
theorem textR_any {w : World} {v : Value} {n : Nat} (ha : IsR w v n) (L : Nat) (hL : L ≤ 1073741824) (hn : n < P2 L) :
    Calls Try.prog 77 #[v] w (RetS w (txt n)) := by
  by_cases h0 : n = 0
  · subst h0
    obtain ⟨ao, k, cap, rfl, hk, hk2⟩ := ha.slice
    have hk0 : k = 0 := hk.2 rfl
    subst hk0
    go_enter Try.func77, Try.ntmps77
    go_wp2
    go_ret
    exact ⟨rfl, Below.refl _ _⟩
  · obtain ⟨ao, k, cap, rfl, hk, hk2⟩ := ha.slice
    have hk0 : k ≠ 0 := fun h => h0 (hk.1 h)
    have hkb : ((k : Int) == 0) = false := by
      rw [beq_eq_false_iff_ne]; omega
    have HT := Lib.hid (show txt n = bstr (rdec n).reverse by unfold txt decs; rw [if_neg h0])
    have HN := Lib.hid hn
    have HL := Lib.hid (rdec_len hn)
    clear hn hk
    go_enter Try.func77, Try.ntmps77
    go_wp2
    go_loopg [0, 3] n (fun g u o wr => ∃ zs : List Nat, IsR wr u g ∧ Hid (g ≤ n) ∧ Row wr w.heap.size .u8 5 o zs ∧ Hid (zs ++ rdec g = rdec n) ∧ Below w.heap.size w wr)
    case atStart => exact ⟨[], ha, Lib.hid (Nat.le_refl _), Row.nil _ _ _ _, Lib.hid rfl, Below.refl _ _⟩
    case round =>
      obtain ⟨zs, hu, hgn, hrow, hz, hbel⟩ := hrel
      have hsz := hbel.size
      obtain ⟨ao3, k3, cap3, rfl, hk3, hk4⟩ := hu.slice
      by_cases hk0 : k3 = 0
      · have hg0 : gk = 0 := hk3.1 hk0
        subst hg0
        subst hk0
        have hz' := hz.out
        rw [rdec_zero, List.append_nil] at hz'
        have HZ := Lib.hid hz'
        clear hz' hz hk3
        obtain ⟨q, hq⟩ : ∃ q, q = zs.length := ⟨_, rfl⟩
        have hq0 : 1 ≤ q ∧ q ≤ L := by
          have := HL.out
          rw [hq, HZ.out]
          refine ⟨?_, this⟩
          rw [rdec_pos h0]; simp
        have HQ := Lib.hid hq
        clear hq
        obtain ⟨g, cap, rfl, hgB, hcq, hcm⟩ := hrow.opn q HQ.out hq0.1
        go_wp2
        obtain ⟨wo, rfl⟩ : ∃ wo : World, wo = wr := ⟨_, rfl⟩
        go_loopw [5, 6, 7] (fun i k _ ws => ∃ (j kk : Nat) (ys : List Nat), i = .int .i64 j ∧ k = .int .i64 kk ∧ j + kk + 1 = q ∧ 2 * j ≤ q ∧ Flip zs ys j ∧ Row ws w.heap.size .u8 5 (.slice (some ⟨g, 0, none⟩) q cap) ys ∧ Below w.heap.size w ws) (fun i _ _ _ => q - (intOf i).toNat)
        case atStart => exact ⟨0, q - 1, zs, rfl, by go_num, by omega, by omega, Flip.zero zs, hrow, hbel⟩
        case round =>
          obtain ⟨j, kk, ys, rfl, rfl, hjk, h2j, hfl, hrw, hbl⟩ := hrel
          have HY : Hid (ys.length = q) := by rw [hfl.len]; exact HQ.out.symm
          by_cases hlt : j < kk
          · have c1 := hrw.cell (i := j) (by rw [HY.out]; omega)
            have c2 := hrw.cell (i := kk) (by rw [HY.out]; omega)
            have f1 := hrw.frozen j
            have r2 := hrw.seti j (nth ys kk) rfl
            have d2 := r2.cell (i := kk) (by rw [List.length_set, HY.out]; omega)
            rw [nth_set_ne _ _ _ _ (by omega)] at d2
            have f2 := r2.frozen kk
            have r3 := r2.seti kk (nth ys j) rfl
            have HF := Lib.hid (hfl.step (by rw [← HQ.out]; exact hjk) hlt)
            go_wp2
            go_roundw
            case rel => exact ⟨j + 1, kk - 1, _, by go_num, by go_num, by omega, by omega, HF.out, r3, (hbl.setCell hgB _).setCell hgB _⟩
            case measure => simp [intOf]; omega
          · have he : ys = (rdec n).reverse := by rw [← HZ.out]; exact hfl.done (by rw [← HQ.out]; omega)
            have HE := Lib.hid he
            have hcv := run_convert_bytes_arg (P := Try.prog) wr 119 5 Try.underlying119 Try.underlying5 g 0 q cap (ys.map fun (x : Nat) => (x : Int)) (by rw [List.length_map, HY.out]) (fun i hi => by
              rw [Nat.zero_add, hrw.cell (by rw [HY.out]; exact hi)]
              rw [nth_lt (by rw [HY.out]; exact hi)]
              simp [List.getD, HY.out, hi]) 9 Try.underlying9
            rw [strOfNums_bstr] at hcv
            clear he
            go_wp2
            go_ret
            exact ⟨by rw [HT.out, ← HE.out]; rfl, hbl⟩
      · have hg0 : gk ≠ 0 := fun h => hk0 (hk3.2 h)
        have hm : gk < P2 L := Nat.lt_of_le_of_lt hgn.out HN.out
        have HM := Lib.hid hm
        have hzl : zs.length < 1099511627776 := by
          have := HL.out
          rw [← hz.out, List.length_append] at this
          omega
        have HZ : Hid ((zs ++ [48 + gk % 10]) ++ rdec (gk / 10) = rdec n) := Lib.hid (by
          rw [← hz.out, rdec_pos hg0, List.append_assoc]; rfl)
        have HG : Hid (gk / 10 ≤ n) := Lib.hid (by have := hgn.out; omega)
        clear hk3 hm
        go_wp2_with fail
        refine (small_any hu 10 (by omega) (by omega) L (by omega) HM.out).mono ?_
        rintro e w1 ⟨v1, rfl, iv, b1, hfr⟩
        have hrow1 := hrow.keep b1 (Nat.le_refl _)
        have hsz1 := b1.size
        obtain ⟨ao4, k4, cap4, rfl, hk5, hk6⟩ := iv.slice
        have HK5 := Lib.hid hk5
        clear hk5
        go_wp2_with (at_builtin; go_loud (refine wpList_append_row _ rfl _ _ 119 rfl w.heap.size 5 .u8 1 Try.underlying119 (by kernel_rfl) (by omega) _ zs _ (48 + gk % 10) (by rfl) hrow1 (by rfl) (by omega) hzl (by omega) ?_; intro v' w' hrow' hbel' hfr'))
        go_roundg (gk / 10)
        case measure => omega
        case rel => exact ⟨_, iv.kept (fun k hk hc => by have := hfr k hk; have := (hrow.lt k hc).2; omega) hfr', HG, hrow', HZ, (hbel.trans (b1.mono hsz)).trans hbel'⟩

end Go.Proofs.Ytppbhjhbaknidaa
