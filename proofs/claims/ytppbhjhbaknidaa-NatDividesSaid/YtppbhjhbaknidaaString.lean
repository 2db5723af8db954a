/-
  The contract of the program's String: the numeral of a number. Condition: numbers of at most 2^30 bits.
-/
import Derived.Test.YtppbhjhbaknidaaParse
import Derived.Test.YtppbhjhbaknidaaBld
namespace Go.Proofs.Ytppbhjhbaknidaa
open Go.RowKit

theorem IsN.kept {w w' : World} {v r : Value} {m : Nat} (h : IsN w v m) (hk : ∀ k, v.ownBlock = some k → r.ownBlock ≠ some k)
    (he : ∀ k, k < w.heap.size → r.ownBlock ≠ some k → w'.heap[k]? = w.heap[k]?) : IsN w' v m := by
  obtain ⟨xs, ⟨ao, n, cap, b, off, rfl, hs⟩, hc, hv⟩ := h
  refine ⟨xs, ⟨ao, n, cap, b, off, rfl, { hs with cells := fun i hi => ?_ }⟩, hc, hv⟩
  obtain rfl := hs.addr.resolve_right (by omega)
  rw [← hs.cells i hi]
  simp only [World.cell?]
  rw [he b (hs.lt (by omega)) (hk b rfl)]

theorem IsN.len {w : World} {v : Value} {n : Nat} (h : IsN w v n) : ∃ ao k cap, v = .slice ao k cap ∧ (k = 0 ↔ n = 0) ∧ k ≤ 1099511627776 := by
  obtain ⟨xs, ⟨ao, k, cap, b, off, hv, hs⟩, hc, hn⟩ := h
  refine ⟨ao, k, cap, hv, ⟨fun h0 => ?_, fun h0 => ?_⟩, hs.max.1⟩
  · have : xs = [] := List.length_eq_zero_iff.1 (by rw [hs.len, h0])
    rw [← hn, this]; rfl
  · have := hc.zero (by omega) (by rw [hn, h0])
    rw [← hs.len, this]; rfl

/-- The bytes written so far: none for 0. -/
def dz (m : Nat) : List Nat := (rdec m).reverse
theorem dz_zero : dz 0 = [] := by unfold dz; rw [rdec_zero]; rfl
theorem dz_step {m d : Nat} (hd : d < 10) (h : 0 < m ∨ 0 < d) : dz (10 * m + d) = dz m ++ [48 + d] := by
  unfold dz
  rw [rdec_pos (by omega), List.reverse_cons, show (10 * m + d) / 10 = m by omega, show (10 * m + d) % 10 = d by omega]
theorem dz_len {m : Nat} : 0 < (dz m).length ↔ 0 < m := by
  by_cases h : m = 0
  · subst h; rw [dz_zero]; simp
  · unfold dz; rw [rdec_pos h]; simp; omega
theorem byte_cells {zs : List Nat} (h : ∀ x ∈ zs, x < 256) : intsOf .u8 zs = Lib.byteCells (zs.map UInt8.ofNat) := by
  simp only [intsOf, Lib.byteCells, List.map_map]
  apply List.map_congr_left
  intro x hx
  simp [Nat.mod_eq_of_lt (h x hx)]

/-- One chunk: the scale S, the number m written so far. -/
def ChunkAt (N c S m : Nat) : Prop := (S = 0 ∧ m = N) ∨ ∃ p, p ≤ 8 ∧ S = 10 ^ p ∧ 10 * S * m + c % (10 * S) = N
theorem ChunkAt.start {T c : Nat} (hc : c < 1000000000) : ChunkAt (1000000000 * T + c) c 100000000 T :=
  .inr ⟨8, by omega, rfl, by rw [Nat.mod_eq_of_lt (by omega)]⟩
theorem ChunkAt.step {N c S m : Nat} (h : ChunkAt N c S m) (hS : 0 < S) : ChunkAt N c (S / 10) (10 * m + c / S % 10) := by
  rcases h with ⟨h, _⟩ | ⟨p, hp, rfl, h⟩
  · omega
  · match p with
    | 0 => exact .inl ⟨rfl, by simp at h ⊢; omega⟩
    | p + 1 =>
      have e : 10 ^ (p + 1) / 10 = 10 ^ p := by rw [Nat.pow_succ]; omega
      rw [e]
      refine .inr ⟨p, by omega, rfl, ?_⟩
      rw [← h, show 10 * 10 ^ p = 10 ^ (p + 1) by rw [Nat.pow_succ]; omega]
      generalize 10 ^ (p + 1) = S at *
      have := Nat.mod_mul (x := c) (a := S) (b := 10)
      rw [Nat.mul_comm 10 S, this, Nat.mul_add, ← Nat.mul_assoc, Nat.mul_assoc S 10 m]
      omega
theorem ChunkAt.le {N c S m : Nat} (h : ChunkAt N c S m) : S ≤ 100000000 := by
  rcases h with ⟨h, _⟩ | ⟨p, hp, rfl, h⟩
  · omega
  · exact Nat.pow_le_pow_right (n := 10) (by omega) hp


structure Chunks (n L g : Nat) (cs : List Nat) : Prop where
  dg : Dg 1000000000 cs
  eq : val 1000000000 cs + 1000000000 ^ cs.length * g = n
  le : cs.length ≤ L

theorem Chunks.zero (n L : Nat) : Chunks n L n [] := ⟨Dg.nil _, by simp [val], Nat.zero_le _⟩
theorem Chunks.step {n L g : Nat} {cs : List Nat} (h : Chunks n L g cs) (hg : g ≠ 0) (hn : n < P2 L) : Chunks n L (g / 1000000000) (cs ++ [g % 1000000000]) ∧ cs.length < L := by
  have e := Nat.mod_add_div g 1000000000
  have hlt : cs.length < L := by
    refine P2_lt (Nat.lt_of_le_of_lt ?_ hn)
    have h1 : P2 cs.length ≤ 1000000000 ^ cs.length := Nat.pow_le_pow_left (by omega) _
    have h2 := h.eq
    have h3 : 1000000000 ^ cs.length * 1 ≤ 1000000000 ^ cs.length * g := Nat.mul_le_mul_left _ (by omega)
    omega
  refine ⟨⟨h.dg.snoc (Nat.mod_lt _ (by omega)), ?_, by rw [List.length_append]; simp; omega⟩, hlt⟩
  rw [val_snoc, List.length_append, List.length_singleton, Nat.pow_succ, Nat.add_assoc, Nat.mul_assoc, ← Nat.mul_add, e]
  exact h.eq
theorem Chunks.done {n L : Nat} {cs : List Nat} (h : Chunks n L 0 cs) : val 1000000000 cs = n := by
  have := h.eq
  rwa [Nat.mul_zero, Nat.add_zero] at this

theorem dz_byte (m : Nat) : ∀ x ∈ dz m, x < 256 := fun x hx => by
  have := rdec_byte m x (List.mem_reverse.1 hx)
  omega
theorem dz_len_le {m L : Nat} (h : m < P2 L) : (dz m).length ≤ L := by
  unfold dz; rw [List.length_reverse]; exact rdec_len h
theorem intsOf_snoc (K : IntKind) (zs : List Nat) (d : Nat) : intsOf K zs ++ [.int K (d : Int)] = intsOf K (zs ++ [d]) := by simp [intsOf]
theorem intsOf_len (K : IntKind) (zs : List Nat) : (intsOf K zs).length = zs.length := by simp [intsOf]
theorem ChunkAt.m_le {N c S m : Nat} (h : ChunkAt N c S m) : m ≤ N := by
  rcases h with ⟨_, h⟩ | ⟨p, hp, rfl, h⟩
  · omega
  · have h1 : 1 ≤ 10 * 10 ^ p := by have := Nat.pow_pos (n := p) (show 0 < 10 by omega); omega
    have := Nat.mul_le_mul_right m h1
    omega
theorem ChunkAt.end_ {N c m : Nat} (h : ChunkAt N c 0 m) : m = N := by
  rcases h with ⟨_, h⟩ | ⟨p, hp, h, _⟩
  · exact h
  · have := Nat.pow_pos (n := p) (show 0 < 10 by omega); omega
theorem dz_stay {m d : Nat} (h : ¬ (0 < m ∨ 0 < d)) : 10 * m + d = m := by omega
theorem val_drop_le (b : Nat) (hb : 0 < b) (cs : List Nat) (j : Nat) : val b (cs.drop j) ≤ val b cs := by
  by_cases h : j ≤ cs.length
  · have e := val_take_drop b cs j h
    have := Nat.mul_le_mul_right (val b (cs.drop j)) (Nat.pow_pos (n := j) hb)
    rw [Nat.succ_eq_add_one, Nat.zero_add, Nat.one_mul] at this
    omega
  · rw [List.drop_of_length_le (by omega)]; exact Nat.zero_le _

set_option maxHeartbeats 2000000 in
set_option maxRecDepth 100000 in
theorem String_any {w : World} {v : Value} {n : Nat} (ha : IsNat w v n) (L : Nat) (hL : L ≤ 1073741824) (hn : n < P2 L) :
    Calls Try.prog 60 #[v] w (RetS w (txt n)) := by
  obtain ⟨s, rfl, ha⟩ := ha
  obtain ⟨ao, k, cap, rfl, hk, hk2⟩ := ha.len
  have hB0 : Below w.heap.size w (w.alloc (.cells #[.slice ao k cap] 25)) := (Below.refl _ _).alloc (Nat.le_refl _) _
  by_cases h0 : k = 0
  · have hn0 := hk.1 h0
    subst hn0
    subst h0
    clear hk hn
    go_enter Try.func60, Try.ntmps60
    go_wp2
    go_ret
    exact ⟨rfl, hB0⟩
  · have hkb : ((k : Int) == 0) = false := by rw [beq_eq_false_iff_ne]; omega
    have hn0 : n ≠ 0 := fun h => h0 (hk.2 h)
    have HT := Lib.hid (show txt n = bstr (dz n) by unfold txt decs dz; rw [if_neg hn0])
    have HN := Lib.hid hn
    have ha1 := ha.below hB0
    clear hn hk ha
    go_enter Try.func60, Try.ntmps60
    go_wp2
    obtain ⟨wo, hwo⟩ : ∃ wo : World, wo = w.alloc (.cells #[.slice ao k cap] 25) := ⟨_, rfl⟩
    rw [← hwo] at hB0 ha1 ⊢
    clear hwo
    go_loopg [3, 4] n (fun g o u wr => ∃ cs : List Nat, IsN wr u g ∧ Hid (g ≤ n) ∧ Row wr wo.heap.size .u32 115 o cs ∧ Hid (Chunks n L g cs) ∧ Below wo.heap.size wo wr)
    case atStart => exact ⟨[], ha1, Lib.hid (Nat.le_refl _), Row.nil _ _ _ _, Lib.hid (Chunks.zero _ _), Below.refl _ _⟩
    case round =>
      obtain ⟨cs, hu, hgn, hrow, hch, hbel⟩ := hrel
      have hsz := hbel.size
      obtain ⟨ao3, k3, cap3, rfl, hk3, hk4⟩ := hu.len
      by_cases hk0 : k3 = 0
      · have hg0 : gk = 0 := hk3.1 hk0
        subst hg0
        subst hk0
        have HV := Lib.hid hch.out.done
        have HDG := Lib.hid hch.out.dg
        obtain ⟨q, hq⟩ : ∃ q, q = cs.length := ⟨_, rfl⟩
        have hq0 : 1 ≤ q ∧ q ≤ L := by
          have := hch.out.le
          rw [hq]
          refine ⟨?_, this⟩
          refine List.length_pos_iff.2 fun h => ?_
          rw [h] at HV
          exact hn0 HV.out.symm
        have HQ := Lib.hid hq
        clear hq hk3 hch hgn
        obtain ⟨hq1, hq2⟩ := hq0
        obtain ⟨g, cap, rfl, hgB, hcq, hcm⟩ := hrow.opn q HQ.out hq1
        have hfb := Lib.fresh_isBuilder 121 5 wr
        go_wp2
        obtain ⟨wb, hwb⟩ : ∃ wb : World, wb = wr := ⟨_, rfl⟩
        rw [← hwb] at hrow hbel hsz hfb ⊢
        clear hwb
        go_loopw [8, 9, 10] (fun i _ _ ws => ∃ (j m : Nat), i = .int .i64 ((j : Int) - 1) ∧ j ≤ q ∧ Hid (m = val 1000000000 (cs.drop j)) ∧ Lib.IsBuilder 121 5 wb.heap.size wb.heap.size (intsOf .u8 (dz m)) ws ∧ Below wb.heap.size wb ws) (fun i _ _ _ => (intOf i + 1).toNat)
        case atStart => exact ⟨q, 0, rfl, Nat.le_refl _, Lib.hid (by rw [List.drop_of_length_le (by rw [HQ.out]; exact Nat.le_refl _)]; rfl), by rw [dz_zero]; exact hfb, (Below.refl _ _).alloc (Nat.le_refl _) _⟩
        case round =>
          obtain ⟨j, m0, rfl, hj, hm, hbd, hbl⟩ := hrel
          by_cases hj0 : j = 0
          · subst hj0
            have HM : Hid (m0 = n) := Lib.hid (by rw [hm.out, List.drop_zero, HV.out])
            have hd0 : decide ((0 : Int) ≤ ((0 : Nat) : Int) - 1) = false := rfl
            have HB : Hid (Lib.IsBuilder 121 5 wb.heap.size wb.heap.size (Lib.byteCells ((dz n).map UInt8.ofNat)) wr) := Lib.hid (by
              rw [← byte_cells (dz_byte n), ← HM.out]; exact hbd)
            go_wp2_with fail
            refine (Try.Builder_String_any wb.heap.size wb.heap.size _ _ HB.out hbl.size).mono ?_
            rintro e w2 ⟨rfl, b2⟩
            go_wp2
            go_ret
            exact ⟨by rw [HT.out]; rfl, hB0.trans ((hbel.trans ((hbl.trans b2).mono hsz)).mono hB0.size)⟩
          · obtain ⟨t, rfl⟩ : ∃ t, j = t + 1 := ⟨j - 1, by omega⟩
            rw [show ((t + 1 : Nat) : Int) - 1 = (t : Int) by omega]
            obtain ⟨c, hc⟩ : ∃ c, c = nth cs t := ⟨_, rfl⟩
            have hc9 : c < 1000000000 := by rw [hc]; exact HDG.out.nth (by omega) t
            have HC : Hid (1000000000 * m0 + c = val 1000000000 (cs.drop t)) := Lib.hid (by
              rw [val_drop_cons _ (by rw [← HQ.out]; omega), hm.out, hc]; omega)
            have HN2 : Hid (1000000000 * m0 + c ≤ n) := Lib.hid (by
              rw [HC.out, ← HV.out]; exact val_drop_le _ (by omega) _ _)
            have HCC := Lib.hid hc
            clear hc hm
            obtain ⟨wt, hwt⟩ : ∃ wt : World, wt = wr := ⟨_, rfl⟩
            rw [← hwt] at hbd hbl ⊢
            clear hwt
            go_wp2
            go_loopw [9, 10] (fun s _ ws => ∃ (S m : Nat), s = .int .u32 (S : Int) ∧ Hid (ChunkAt (1000000000 * m0 + c) c S m) ∧ S ≤ 100000000 ∧ Lib.IsBuilder 121 5 wb.heap.size wb.heap.size (intsOf .u8 (dz m)) ws ∧ Below wb.heap.size wb ws) (fun s _ _ => (intOf s).toNat)
            case atStart => exact ⟨100000000, m0, rfl, Lib.hid (ChunkAt.start hc9), by omega, hbd, hbl⟩
            case round =>
              obtain ⟨S, m, rfl, hca, hS, hbd1, hbl1⟩ := hrel
              clear hbd hbl
              by_cases hS0 : 0 < S
              · have hrw := hrow.keep hbl1 (Nat.le_refl _)
                have hcl := hrw.cell (i := t) (by rw [← HQ.out]; omega)
                rw [← HCC.out] at hcl
                have HCA := Lib.hid (hca.out.step hS0)
                have HML : Hid ((intsOf .u8 (dz m)).length + 1 ≤ 140737488355328) := Lib.hid (by
                  rw [intsOf_len]
                  have := dz_len_le (Nat.lt_of_le_of_lt (Nat.le_trans hca.out.m_le HN2.out) HN.out)
                  omega)
                have hd10 : c / S % 10 < 10 := Nat.mod_lt _ (by omega)
                have hsz1 := hbl1.size
                have hlen := Try.Builder_Len wb.heap.size wb.heap.size _ _ hbd1
                rw [intsOf_len] at hlen
                have HLn := dz_len (m := m)
                have HDS := Lib.hid (fun h => dz_step (m := m) (d := c / S % 10) hd10 h)
                have HDT := Lib.hid (fun h => dz_stay (m := m) (d := c / S % 10) h)
                have hdI : (c : Int) / (S : Int) % 4294967296 % 10 = ((c / S % 10 : Nat) : Int) := by
                  have h1 : c / S ≤ c := Nat.div_le_self _ _
                  rw [← Int.natCast_ediv]
                  generalize c / S = y at h1 ⊢
                  omega
                generalize hx : c / S % 10 = d at *
                have HX := Lib.hid hx
                clear hx
                generalize (dz m).length = l at hlen HLn
                have hcase : (0 < m ∧ 0 < l) ∨ (m = 0 ∧ l = 0 ∧ 0 < d) ∨ (m = 0 ∧ l = 0 ∧ d = 0) := by omega
                clear HLn
                have HW := Lib.hid (fun w0 h => writeByte_any wb.heap.size wb.heap.size _ (48 + (d : Int)) w0 h HML.out)
                rcases hcase with ⟨h1, h2⟩ | ⟨h1, h2, h3⟩ | ⟨h1, h2, h3⟩
                · go_wp2_with fail
                  refine hlen.mono ?_
                  rintro e w2 ⟨rfl, rfl⟩
                  go_wp2_with fail
                  refine (HW.out _ hbd1 hsz1).mono ?_
                  rintro e w3 ⟨rfl, hb3, b3⟩
                  go_wp2
                  go_roundw
                  case rel => exact ⟨S / 10, _, rfl, HCA, by omega, by
                    rw [HDS.out (.inl h1), ← intsOf_snoc]; exact .inr (by simpa using hb3), hbl1.trans b3⟩
                  case measure => simp [intOf]; omega
                · subst h2
                  go_wp2_with fail
                  refine hlen.mono ?_
                  rintro e w2 ⟨rfl, rfl⟩
                  go_wp2_with fail
                  refine (HW.out _ hbd1 hsz1).mono ?_
                  rintro e w3 ⟨rfl, hb3, b3⟩
                  go_wp2
                  go_roundw
                  case rel => exact ⟨S / 10, _, rfl, HCA, by omega, by
                    rw [HDS.out (.inr h3), ← intsOf_snoc]; exact .inr (by simpa using hb3), hbl1.trans b3⟩
                  case measure => simp [intOf]; omega
                · subst h2
                  subst h3
                  go_wp2_with fail
                  refine hlen.mono ?_
                  rintro e w2 ⟨rfl, rfl⟩
                  go_wp2
                  go_roundw
                  case rel => exact ⟨S / 10, _, rfl, HCA, by omega, by
                    rw [HDT.out (by omega)]; exact hbd1, hbl1⟩
                  case measure => simp [intOf]; omega
              · have hS00 : S = 0 := by omega
                subst hS00
                have HE := Lib.hid hca.out.end_
                go_wp2
                go_roundw
                case rel => exact ⟨t, m, by go_num, by omega, Lib.hid (by rw [HE.out, HC.out]), hbd1, hbl1⟩
                case measure => simp [intOf]
      · have hg0 : gk ≠ 0 := fun h => hk0 (hk3.2 h)
        have HCH := Lib.hid (hch.out.step hg0 HN.out)
        have HM : Hid (gk < P2 L) := Lib.hid (Nat.lt_of_le_of_lt hgn.out HN.out)
        have HG : Hid (gk / 1000000000 ≤ n) := Lib.hid (by have := hgn.out; omega)
        have hcl : cs.length < 1099511627776 := by have := HCH.out.2; omega
        clear hk3 hch hgn
        go_wp2_with fail
        refine (divWord_own hu 1000000000 (by omega) (by omega) L (by omega) HM.out).mono ?_
        rintro e w1 ⟨v1, rfl, iv, b1, hfr⟩
        have hrow1 := hrow.keep b1 (Nat.le_refl _)
        have hsz1 := b1.size
        obtain ⟨ao4, k4, cap4, rfl, hk5, hk6⟩ := iv.len
        have HK5 := Lib.hid hk5
        clear hk5
        go_wp2_with (at_builtin; go_loud (refine wpList_append_row _ rfl _ _ 23 rfl wo.heap.size 115 .u32 4 Try.underlying23 (by kernel_rfl) (by omega) _ cs _ (gk % 1000000000) (by rfl) hrow1 (by rfl) (by omega) hcl (by omega) ?_; intro v' w' hrow' hbel' hfr'))
        go_roundg (gk / 1000000000)
        case measure => omega
        case rel => exact ⟨_, iv.kept (fun k hk hc => by have := hfr k hk; have := (hrow.lt k hc).2; omega) hfr', HG, hrow', Lib.hid HCH.out.1, (hbel.trans (b1.mono hsz)).trans hbel'⟩

end Go.Proofs.Ytppbhjhbaknidaa
