/-
  The reference's Run.set. Condition: the rows of names and values lie in memory.
-/
import Derived.Test.YtddnmocoaahlfaaGreatDoorCmD
set_option linter.unusedVariables false
set_option linter.unusedSimpArgs false
namespace Go.Proofs.YtddnmocoaahlfaaGreatDoor
open Go.RowKit Go.Shelf
def VarsAt (w : World) (b : Nat) (N V : Value) (σ : List UInt8 → Option Int) (m : Nat) : Prop := ∃ (ns : List ByteArray) (vs : List Int), w.ownsRow b 9 1 N ns.length (ns.map Value.string) ∧ IRow w b V vs ∧ vs.length = ns.length ∧ scopeOf ns vs = σ ∧ (ns.map txt).Nodup ∧ ns.length ≤ m
theorem scopeUp_congr {ns ns' : List ByteArray} {vs vs' : List Int} : ∀ k, (∀ i, i < k → ns[i]! = ns'[i]! ∧ vs[i]! = vs'[i]!) → scopeUp ns vs k = scopeUp ns' vs' k
  | 0, _ => rfl
  | k + 1, h => by
    unfold scopeUp
    rw [scopeUp_congr k (fun i hi => h i (by omega)), (h k (by omega)).1, (h k (by omega)).2]
theorem get_app {α : Type} [Inhabited α] (l : List α) (x : α) {i : Nat} (h : i < l.length) : (l ++ [x])[i]! = l[i]! := by
  rw [List.getElem!_eq_getElem?_getD, List.getElem!_eq_getElem?_getD, List.getElem?_append_left h]
theorem get_app_last {α : Type} [Inhabited α] (l : List α) (x : α) : (l ++ [x])[l.length]! = x := by
  rw [List.getElem!_eq_getElem?_getD, List.getElem?_append_right (Nat.le_refl _)]
  simp
theorem scopeUp_put {ns : List ByteArray} {vs : List Int} (hl : vs.length = ns.length) (nm : ByteArray) (n : Int) : scopeOf (ns ++ [nm]) (vs ++ [n]) = upd (scopeOf ns vs) (txt nm) n := by
  unfold scopeOf
  have h1 : min (ns ++ [nm]).length (vs ++ [n]).length = ns.length + 1 := by simp; omega
  have h2 : min ns.length vs.length = ns.length := by omega
  rw [h1, h2]
  show upd (scopeUp (ns ++ [nm]) (vs ++ [n]) ns.length) (txt (ns ++ [nm])[ns.length]!) (vs ++ [n])[ns.length]! = _
  have e1 : (vs ++ [n])[ns.length]! = n := by rw [← hl]; exact get_app_last vs n
  rw [get_app_last, e1, scopeUp_congr (ns := ns ++ [nm]) (ns' := ns) (vs := vs ++ [n]) (vs' := vs) ns.length (fun i hi => ⟨get_app ns nm hi, get_app vs n (by omega)⟩)]
theorem scopeUp_other {ns : List ByteArray} {vs : List Int} {i : Nat} (n : Int) : ∀ k, k ≤ i → scopeUp ns (vs.set i n) k = scopeUp ns vs k
  | 0, _ => rfl
  | k + 1, h => by
    unfold scopeUp
    rw [scopeUp_other n k (by omega)]
    congr 1
    rw [List.getElem!_eq_getElem?_getD, List.getElem!_eq_getElem?_getD, List.getElem?_set_ne (by omega)]
theorem scopeUp_set' {ns : List ByteArray} {vs : List Int} (hl : vs.length = ns.length) (hd : (ns.map txt).Nodup) {i : Nat} (hi : i < ns.length) (n : Int) : ∀ k, i < k → k ≤ ns.length → scopeUp ns (vs.set i n) k = upd (scopeUp ns vs k) (txt ns[i]) n
  | 0, h, _ => by omega
  | k + 1, h, hk => by
    unfold scopeUp
    by_cases hik : k = i
    · subst hik
      rw [scopeUp_other n k (Nat.le_refl _)]
      have e1 : (vs.set k n)[k]! = n := by rw [List.getElem!_eq_getElem?_getD, List.getElem?_set_self (by omega)]; rfl
      have e2 : ns[k]! = ns[k] := by simp [hi]
      rw [e1, e2]
      funext m
      unfold upd
      by_cases hm : m = txt ns[k]
      · rw [if_pos hm, if_pos hm]
      · rw [if_neg hm, if_neg hm, if_neg hm]
    · rw [scopeUp_set' hl hd hi n k (by omega) (by omega)]
      have e1 : (vs.set i n)[k]! = vs[k]! := by rw [List.getElem!_eq_getElem?_getD, List.getElem!_eq_getElem?_getD, List.getElem?_set_ne (by omega)]
      have hkl : k < ns.length := by omega
      have e2 : ns[k]! = ns[k] := by simp [hkl]
      have hne : txt ns[k] ≠ txt ns[i] := fun e => by
        have h1 := List.pairwise_iff_getElem.1 hd i k (by simpa using hi) (by simpa using hkl) (by omega)
        rw [List.getElem_map, List.getElem_map] at h1
        exact h1 e.symm
      rw [e1, e2]
      funext m
      unfold upd
      by_cases hm : m = txt ns[k]
      · rw [if_pos hm, if_neg (by rw [hm]; exact hne), if_pos hm]
      · rw [if_neg hm, if_neg hm]
theorem scopeUp_set {ns : List ByteArray} {vs : List Int} (hl : vs.length = ns.length) (hd : (ns.map txt).Nodup) {i : Nat} (hi : i < ns.length) (n : Int) : scopeOf ns (vs.set i n) = upd (scopeOf ns vs) (txt ns[i]) n := by
  unfold scopeOf
  have h2 : min ns.length vs.length = ns.length := by omega
  rw [List.length_set, h2]
  exact scopeUp_set' hl hd hi n _ hi (Nat.le_refl _)
theorem nrow_lies {w : World} {p : Option Addr} {n c : Nat} {l : List Int} (h : NRow w (.slice p n c) l) {i : Nat} (hi : i < l.length) : ∃ L o, p = some ⟨L, o, none⟩ ∧ ∀ j u, (l.map fun n => Value.int .i64 n)[j]? = some u → w.cell? ⟨L, o + j, none⟩ = some u := by
  rcases h with ⟨rfl, _⟩ | ⟨_, L, o, c', h1, _, h3⟩
  · simp at hi
  · injection h1 with h1 _ _
    refine ⟨L, o, h1, fun j u hj => ?_⟩
    obtain ⟨q1, q2⟩ := List.getElem?_eq_some_iff.1 hj
    rw [List.length_map] at q1
    rw [List.getElem_map] at q2
    rw [h3 j q1, q2]
theorem srw_lies {w : World} {p : Option Addr} {n c : Nat} {l : List ByteArray} (h : SRw w (.slice p n c) l) (h0 : l ≠ []) : ∃ L o, p = some ⟨L, o, none⟩ ∧ ∀ j u, (l.map Value.string)[j]? = some u → w.cell? ⟨L, o + j, none⟩ = some u := by
  rcases h with ⟨h, _⟩ | ⟨_, L, o, c', h1, _, h3⟩
  · exact absurd h h0
  · injection h1 with h1 _ _
    refine ⟨L, o, h1, fun j u hj => ?_⟩
    obtain ⟨q1, q2⟩ := List.getElem?_eq_some_iff.1 hj
    rw [List.length_map] at q1
    rw [List.getElem_map] at q2
    rw [h3 j q1, q2]
theorem wpList_copy {w : World} {ops : Array Oper} {rest : List Oper} {o : Oper} {a : Act} {Q : Exit → Act → World → Prop} (hgd : o.guard = none) (s x : Operand) (t : TypeId)
    (ho : o.op = .call { callee := .builtin .append, args := #[s, x], argTypes := #[t, t] }) (e : TypeId) (i : TypeInfo) (z : Value) (bytes : Nat) (ht : Tryz.prog.underlying t = some (.slice e)) (hi : Tryz.prog.info? e = some i) (hz : i.zero = some z)
    (hsize : i.size = 1) (hby : i.bytes = bytes) (hzs : z.cells.size = 1) (hb16 : bytes ≤ 16) (D : Nat) (hs : a.eval s = .slice (some ⟨D, 0, none⟩) 0 0) (hD : Blk w D #[] e)
    (src : Option Addr) (m c : Nat) (news : List Value) (hx : a.eval x = .slice src m c) (hl : news.length = m) (hlies : m ≠ 0 → ∃ L off, src = some ⟨L, off, none⟩ ∧ ∀ j u, news[j]? = some u → w.cell? ⟨L, off + j, none⟩ = some u) (h1 : ∀ u ∈ news, u.oneCell' = true) (hm : m ≤ 1000000)
    (h : ∀ p' c' w', w'.ownsRow D e 1 (.slice p' m c') m news → Below D w w' → wpList Tryz.prog ops Q rest (a.put o.dst (.slice p' m c')) w') : wpList Tryz.prog ops Q (o :: rest) a w := by
  have hr0 : w.ownsRow D e 1 (.slice (some ⟨D, 0, none⟩) 0 0) 0 [] := ⟨rfl, .inr ⟨D, 0, #[], rfl, Nat.le_refl _, hD, Nat.le_refl _, Nat.zero_le _, rfl, rfl⟩⟩
  by_cases h0 : m = 0
  · subst h0
    have hn : news = [] := List.length_eq_zero_iff.1 hl
    subst hn
    exact wpList_append_zero hgd s x t ho e i ht hi _ 0 0 hs (Nat.le_refl _) src c hx (h _ _ w hr0 (Below.refl _ _))
  · obtain ⟨L, off, rfl, hc⟩ := hlies h0
    have hml : maxLen = 9223372036854775807 := rfl
    refine wpList_append_lies w hgd s x t ho D e i z 1 bytes ht hi hz hsize hby hzs (by decide) _ 0 [] hs hr0 ⟨L, off, none⟩ m c news hx (by omega) (fun j u hj => by rw [Addr.add_lit]; exact hc j u hj) h1 (by omega) (by omega) ?_ (by have := hD.lt; omega) _ rfl ?_
    · have : m * bytes ≤ 1000000 * 16 := Nat.mul_le_mul hm hb16
      rw [Nat.zero_add]; omega
    · intro g cap w' hown hgr hat hg
      rw [Nat.zero_add, List.nil_append] at hown
      rw [Nat.zero_add]
      exact h _ _ w' hown ((Below.refl D w).grown hgr (by have := hD.lt; omega) (fun j hj => (hr0.lt j hj).1))
theorem blk_low {w w' : World} {R k : Nat} {cs : Array Value} {t : TypeId} (h : Blk w R cs t) (b : Below k w w') (hk : R < k) : Blk w' R cs t := by
  unfold Blk at *
  rw [b.block R hk]; exact h
theorem own_set {w : World} {b g : Nat} {n cap i : Nat} {vs : List Int} {x : Int} (h : w.ownsRow b 3 1 (.slice (some ⟨g, 0, none⟩) n cap) n (vs.map fun n => Value.int .i64 n)) (hn : n = vs.length) (hi : i < vs.length) :
    (w.setCell ⟨g, i, none⟩ (.int .i64 x)).ownsRow b 3 1 (.slice (some ⟨g, 0, none⟩) n cap) n ((vs.set i x).map fun n => Value.int .i64 n) := by
  rcases h.2 with ⟨h1, _⟩ | ⟨g', cap', cur, h1, hb, hg, hc, hm, hz, ht⟩
  · cases h1
  · injection h1 with h1 _ h2
    injection h1 with h1
    injection h1 with h1 _ _
    subst h1
    subst h2
    refine ⟨by simp [hn], .inr ⟨g, cap, cur.setIfInBounds i (.int .i64 x), rfl, hb, Blk.set (show Blk w g cur 3 from hg) i _, hc, hm, by simpa using hz, ?_⟩⟩
    rw [Array.toList_setIfInBounds, List.take_set, ht, List.map_set]
theorem own_blk {w : World} {b : Nat} {e : TypeId} {v : Value} {n : Nat} {xs : List Value} (h : w.ownsRow b e 1 v n xs) (hn : 0 < n) : ∃ g cap cur, v = .slice (some ⟨g, 0, none⟩) n cap ∧ b ≤ g ∧ Blk w g cur e ∧ n ≤ cap ∧ ∀ j u, xs[j]? = some u → j < n → w.cell? ⟨g, j, none⟩ = some u := by
  rcases h.2 with ⟨_, h0⟩ | ⟨g, cap, cur, h1, hb, hg, hc, hm, hz, ht⟩
  · omega
  · refine ⟨g, cap, cur, h1, hb, hg, hc, fun j u hj hjn => ?_⟩
    rw [Blk.cell (show Blk w g cur e from hg) j]
    rw [← ht, List.getElem?_take_of_lt (by omega), Array.getElem?_toList] at hj
    exact hj
theorem rn_load {w : World} {R : Nat} {A N V : Value} {st er at0 : Int} (h : Blk w R (rnC A N V st er at0) 130) : (Instr.loadAt 130 (.pointer (some ⟨R, 0, none⟩))).run Tryz.prog w = .ok (rnV A N V st er at0) w := by
  simp only [Instr.loadAt, Instr.sureAddr, Sem.run_bind, Sem.run_pure, Result.andThen_ok]
  exact run_loadVar_row w R 130 130 _ (0, 0) _ h Tryz.underlying130 rfl (by rw [size130]; rfl)
theorem rset_fin {w w8 : World} {b R : Nat} {A N V : Value} {st er at0 : Int} {σ : List UInt8 → Option Int} {m : Nat} {c0 : Array Value} (l8 : Below w.heap.size w w8) (hR : w.heap.size ≤ R) (BR : Blk w8 R c0 130) {ns : List ByteArray} {vs : List Int} (hN : w8.ownsRow b 9 1 N ns.length (ns.map Value.string)) (hV : IRow w8 b V vs) (hl : vs.length = ns.length) (hs : scopeOf ns vs = σ) (hd : (ns.map txt).Nodup) (hm : ns.length ≤ m) :
    Below w.heap.size w (w8.setRow R (rnC A N V st er at0)) ∧ ∃ N' V', Ending.returned (rnV A N V st er at0) = .returned (rnV A N' V' st er at0) ∧ VarsAt (w8.setRow R (rnC A N V st er at0)) b N' V' σ m := by
  have s := setRow_stays w8 R (rnC A N V st er at0)
  exact ⟨l8.trans (s.below l8.size (fun j hj e => by have e' : j = R := e; omega)), N, V, rfl, ns, vs, own_stays hN BR (by decide) s, own_stays hV BR (by decide) s, hl, hs, hd, hm⟩
set_option maxRecDepth 100000 in
set_option maxHeartbeats 8000000 in
theorem rset_any {w : World} {b : Nat} {A N V : Value} {σ : List UInt8 → Option Int} {m : Nat} (hA : Slc A) (hv : VarsAt w b N V σ m) (hb : b ≤ w.heap.size) (hm : m ≤ 100000) (st er at0 : Int) (nm : ByteArray) (n : Int) :
    Calls Tryz.prog 134 #[rnV A N V st er at0, .string nm, .int .i64 n] w (fun x w' => Below w.heap.size w w' ∧ ∃ N' V', x = .returned (rnV A N' V' st er at0) ∧ VarsAt w' b N' V' (upd σ (txt nm) n) (m + 1)) := by
  obtain ⟨i0, hi0, hz0, hz1, hz2⟩ := info_parts info3
  obtain ⟨j0, hj0, hy0, hy1, hy2⟩ := info_parts info9
  obtain ⟨ns, vs, hN, hV, hl, hσ, hd, hnm⟩ := hv
  have hNR := (srow_of hN).rw
  have hVR := nrow_of hV
  obtain ⟨n1, n3, rfl⟩ := hNR.form
  obtain ⟨v1, v3, rfl⟩ := hVR.form
  obtain ⟨a1, a2, a3, rfl⟩ := hA
  obtain ⟨w2, hw2, l2, B1, B2, z2⟩ := rn_pre w (rnC (.slice a1 a2 a3) (.slice n1 ns.length n3) (.slice v1 vs.length v3) st er at0)
  have HW := Lib.hid hw2
  have HNR := Lib.hid (hNR.below l2)
  have HVR := Lib.hid (hVR.below l2)
  have HN := Lib.hid (own_below hN l2)
  have HV := Lib.hid (own_below hV l2)
  have HL := Lib.hid hl
  have HSC := Lib.hid hσ
  have HD := Lib.hid hd
  obtain ⟨y0, y1, y2, y3, y4, y5⟩ := rn_cells B1
  have f1 := B1.frozen 1
  have f2 := B1.frozen 2
  have hR2 : w.heap.size + 1 < w2.heap.size := by omega
  have hR1 : w.heap.size < w2.heap.size := by omega
  have hvl : vs.length ≤ 100000 := by omega
  have hnl : ns.length ≤ 100000 := by omega
  have HB1 := Lib.hid B1
  have HB2 := Lib.hid B2
  clear hw2 hNR hVR hN hV hl hσ hd B1 B2 z2
  go_enter Tryz.func134, Tryz.ntmps134
  go_upto_region 1 with fail
  rw [← HW.out]
  go_wp2_with fail
  go_loop [7] (fun t7 => ∃ (i : Nat), t7 = .int .i64 i ∧ i ≤ ns.length ∧ ∀ j (hj : j < ns.length), j < i → ns[j] ≠ nm) (fun t7 => ns.length - (intOf t7).toNat)
  case atStart => exact ⟨0, rfl, Nat.zero_le _, fun j hj h => by omega⟩
  case round =>
    obtain ⟨i, rfl, hi, hne⟩ := hrel
    have HNE := Lib.hid hne
    clear hne
    by_cases hlt : i < ns.length
    · obtain ⟨L, o, rfl, ck⟩ := srw_get HNR.out hlt
      have hcc : ns.length ≤ n3 := (srw_cap HNR.out).resolve_left (fun e => by rw [e] at hlt; simp at hlt)
      have HX := Lib.hid (show ∀ x, x = ns[i] → x ≠ nm → ∀ j (hj : j < ns.length), j < i + 1 → ns[j] ≠ nm from fun x hx h j hj hji => by
        by_cases e : j = i
        · subst e; rw [← hx]; exact h
        · exact HNE.out j hj (by omega))
      obtain ⟨x, hx⟩ : ∃ x, x = ns[i] := ⟨_, rfl⟩
      rw [← hx] at ck
      have HXE := Lib.hid hx
      clear hx
      by_cases hc : x = nm
      · subst hc
        have d : (x.toList == x.toList) = true := by simp
        obtain ⟨wa, hwa⟩ : ∃ wa, wa = w2.alloc (.cells #[] 3) := ⟨_, rfl⟩
        have ba : Below w2.heap.size w2 wa := by rw [hwa]; exact (Below.refl _ _).alloc (Nat.le_refl _) _
        have hDa : Blk wa w2.heap.size #[] 3 := by rw [hwa]; exact Blk.new w2 _ _
        have hlv : i < vs.length := by rw [HL.out]; exact hlt
        have hvn := (HVR.out.below ba)
        have HVA := Lib.hid hvn
        have HDA := Lib.hid hDa
        have HWA := Lib.hid hwa
        have HBA := Lib.hid ba
        have HB1A := Lib.hid (HB1.out.below ba)
        have HLIE := Lib.hid (show vs.length ≠ 0 → _ from fun _ => nrow_lies HVA.out hlv)
        clear hwa hDa hvn ba HX y0 y1 y2 y3 y4 y5 f1 f2
        have y1 : w2.cell? ⟨w.heap.size, 1, none⟩ = some (.slice (some ⟨L, o, none⟩) ns.length n3) := (HB1.out.cell 1).trans rfl
        have y2 : w2.cell? ⟨w.heap.size, 2, none⟩ = some (.slice v1 vs.length v3) := (HB1.out.cell 2).trans rfl
        go_upto_region 6 with (first | (at_builtin; rw [← HWA.out]; refine wpList_copy (o := ⟨some 25, _, _, _, _, _⟩) rfl _ _ 22 rfl 3 i0 (.int .i64 0) 8 Tryz.underlying22 hi0 hz0 hz1 hz2 rfl (by decide) w2.heap.size rfl HDA.out v1 vs.length v3 (vs.map fun n => Value.int .i64 n) rfl (by simp) HLIE.out (by intro u hu; obtain ⟨y, _, rfl⟩ := List.mem_map.1 hu; rfl) (by omega) ?_; intro p' c' w6 hown6 hb6; have B6 := blk_low HB1A.out hb6 hR1; have q2 : w6.cell? ⟨w.heap.size, 2, none⟩ = some (.slice v1 vs.length v3) := (B6.cell 2).trans rfl; have g2 := B6.frozen 2) | fail)
        obtain ⟨g, cap, cur, hp, hgD, hBg, hcap, hcells⟩ := own_blk hown6 (by omega)
        injection hp with hp _ hc'
        subst hp
        subst hc'
        have hgi : w6.cell? ⟨g, i, none⟩ = some (.int .i64 vs[i]) := hcells i _ (by simp [hlv]) hlv
        obtain ⟨w7, hw7⟩ : ∃ w7, w7 = w6.setCell ⟨w.heap.size, 2, none⟩ (.slice (some ⟨g, 0, none⟩) vs.length c') := ⟨_, rfl⟩
        rw [← hw7]
        have s7 : Stays (fun k => k = w.heap.size) w6 w7 := by rw [hw7]; exact Stays.cell (.refl _ w6) 2 _
        have B7 : Blk w7 w.heap.size (rnC (.slice a1 a2 a3) (.slice (some ⟨L, o, none⟩) ns.length n3) (.slice (some ⟨g, 0, none⟩) vs.length c') st er at0) 130 := by rw [hw7]; exact B6.set 2 _
        have hBg7 : Blk w7 g cur 3 := hBg.stays s7 (by omega)
        have zg : w7.cell? ⟨g, i, none⟩ = some (.int .i64 vs[i]) := (World.cell?_of_block (a := ⟨g, i, none⟩) (s7.block g hBg.lt (fun e => by have e' : g = w.heap.size := e; omega))).trans hgi
        have fg := hBg7.frozen i
        have bl6 : Below w2.heap.size w2 w6 := HBA.out.trans hb6
        have hN7 := own_stays (own_below HN.out bl6) B6 (by decide) s7
        have hV7 := own_stays hown6 B6 (by decide) s7
        obtain ⟨w8, hw8⟩ : ∃ w8, w8 = w7.setCell ⟨g, i, none⟩ (.int .i64 n) := ⟨_, rfl⟩
        have s8 : Stays (fun k => k = g) w7 w8 := by rw [hw8]; exact Stays.cell (.refl _ w7) i _
        have hN8 := own_stays hN7 hBg7 (by decide) s8
        have hV8 := own_set (x := n) hV7 rfl hlv
        rw [← hw8] at hV8
        have B8 := B7.stays s8 (by omega)
        have R6 := blk_low HB2.out bl6 hR2
        have R8 := (R6.stays s7 (by omega)).stays s8 (by omega)
        have l6 := l2.trans (bl6.mono l2.size)
        have l8 := (l6.trans (s7.below l6.size (fun j hj e => by have e' : j = w.heap.size := e; omega))).trans (s8.below (by have := s7.size; have := l6.size; omega) (fun j hj e => by have e' : j = g := e; omega))
        have hV9 : IRow w8 b (.slice (some ⟨g, 0, none⟩) vs.length c') (vs.set i n) := by
          unfold IRow
          rw [List.length_set]
          exact row_base hV8 (by omega)
        have HFIN := Lib.hid (rset_fin (b := b) (A := .slice a1 a2 a3) (st := st) (er := er) (at0 := at0) l8 (by omega) R8 hN8 hV9 (by rw [List.length_set]; exact HL.out) (by rw [scopeUp_set HL.out HD.out hlt, ← HXE.out, HSC.out]) HD.out (show ns.length ≤ m + 1 by omega))
        have HW8 := Lib.hid hw8
        have z2 : w7.cell? ⟨w.heap.size, 2, none⟩ = some (.slice (some ⟨g, 0, none⟩) vs.length c') := (B7.cell 2).trans rfl
        clear hown6 hb6 B6 q2 g2 hBg hcells hgi hw7 s7 hBg7 hN7 hV7 hN8 hV8 hV9 l8 l6 R6 s8 hw8 B7 y1 y2 bl6
        go_upto_region 7 with fail
        rw [← HW8.out]
        clear z2 zg fg
        go_wp2_with (first | (refine wpList_val (o := ⟨some 32, Op.load 130 _, _, _, _, _⟩) rfl (Instr.loadAt 130 _) rfl _ (rn_load B8) ?_) | (refine wpList_unit (o := ⟨none, Op.store 130 (.tmp 6) _, _, _, _, _⟩) rfl rfl (Instr.storeAt 130 _ _) rfl (blk_store (c' := rnC (.slice a1 a2 a3) (.slice (some ⟨L, o, none⟩) ns.length n3) (.slice (some ⟨g, 0, none⟩) vs.length c') st er at0) R8 size130 rfl rfl) ?_) | fail)
        exact ⟨rfl, _, res134 (setRow_heap w8 (w.heap.size + 1) _ (rnC (.slice a1 a2 a3) (.slice (some ⟨L, o, none⟩) ns.length n3) (.slice (some ⟨g, 0, none⟩) vs.length c') st er at0) 130 R8) rfl rfl, HFIN.out⟩
      · have d : (x.toList == nm.toList) = false := by rw [ByteArray.toList_eq, ByteArray.toList_eq]; exact beq_eq_false_iff_ne.2 (fun e => hc (txt_eq e))
        have HN2 := Lib.hid (HX.out x HXE.out hc)
        clear hc HX
        go_wp2_with fail
        go_round
        case rel => exact ⟨i + 1, by go_num, by omega, HN2.out⟩
        case measure => simp [intOf]; omega
    · have hil : i = ns.length := by omega
      have hnn : ∀ x ∈ ns, x ≠ nm := fun x hx => by
        obtain ⟨j, hj, rfl⟩ := List.getElem_of_mem hx
        exact HNE.out j hj (by omega)
      obtain ⟨wa, hwa⟩ : ∃ wa, wa = w2.alloc (.cells #[] 9) := ⟨_, rfl⟩
      have ba : Below w2.heap.size w2 wa := by rw [hwa]; exact (Below.refl _ _).alloc (Nat.le_refl _) _
      have hDa : Blk wa w2.heap.size #[] 9 := by rw [hwa]; exact Blk.new w2 _ _
      have HRA := Lib.hid (HNR.out.below ba)
      have HDA := Lib.hid hDa
      have HWA := Lib.hid hwa
      have HBA := Lib.hid ba
      have HB1A := Lib.hid (HB1.out.below ba)
      have HLIE := Lib.hid (show ns.length ≠ 0 → _ from fun h => srw_lies HRA.out (fun e => h (by rw [e]; rfl)))
      have HNN := Lib.hid hnn
      clear hwa hDa ba hnn y0 y3 y4 y5 f1 f2 HNE
      go_upto_region 9 with (first | (at_builtin; rw [← HWA.out]; refine wpList_copy (o := ⟨some 36, _, _, _, _, _⟩) rfl _ _ 27 rfl 9 j0 (.string ⟨#[]⟩) 16 Tryz.underlying27 hj0 hy0 hy1 hy2 rfl (by decide) w2.heap.size rfl HDA.out n1 ns.length n3 (ns.map Value.string) rfl (by simp) HLIE.out (by intro u hu; obtain ⟨y, _, rfl⟩ := List.mem_map.1 hu; rfl) (by omega) ?_; intro p' c' w3 hown3 hb3) | (at_builtin; refine wpList_append_lies (o := ⟨some 39, _, _, _, _, _⟩) _ rfl _ _ 27 rfl w2.heap.size 9 j0 (.string ⟨#[]⟩) 1 16 Tryz.underlying27 hj0 hy0 hy1 hy2 rfl (by decide) _ _ _ rfl (hown3.alloc _) ⟨w3.heap.size, 0, none⟩ 1 1 [.string nm] rfl rfl (one_new _ _ _) (by simp [Value.oneCell']) (by decide) (by unfold maxLen; omega) (by omega) (by have := hb3.size; have := HBA.out.size; simp; omega) _ rfl ?_; intro g4 cap4 w4 hown4 hgr4 hat4 hg4; have hb4 := ((hb3.alloc (by have := hb3.size; have := HBA.out.size; omega) _).grown hgr4 (by have := hb3.size; have := HBA.out.size; simp; omega) (fun j hj => (hown3.lt j hj).1)); have B4 := blk_low HB1A.out hb4 hR1; have q1 : w4.cell? ⟨w.heap.size, 1, none⟩ = some (.slice n1 ns.length n3) := (B4.cell 1).trans rfl; have g1 := B4.frozen 1) | fail)
      obtain ⟨w5, hw5⟩ : ∃ w5, w5 = w4.setCell ⟨w.heap.size, 1, none⟩ (.slice (some ⟨g4, 0, none⟩) (ns.length + 1) cap4) := ⟨_, rfl⟩
      rw [← hw5]
      have s5 : Stays (fun k => k = w.heap.size) w4 w5 := by rw [hw5]; exact Stays.cell (.refl _ w4) 1 _
      have B5 : Blk w5 w.heap.size (rnC (.slice a1 a2 a3) (.slice (some ⟨g4, 0, none⟩) (ns.length + 1) cap4) (.slice v1 vs.length v3) st er at0) 130 := by rw [hw5]; exact B4.set 1 _
      have bl4 : Below w2.heap.size w2 w4 := HBA.out.trans hb4
      have hN5 := own_stays hown4 B4 (by decide) s5
      have hV5 := own_stays (own_below HV.out bl4) B4 (by decide) s5
      have hV5r := nrow_of hV5
      have R5 := (blk_low HB2.out bl4 hR2).stays s5 (by omega)
      have l4 := l2.trans (bl4.mono l2.size)
      have l5 := l4.trans (s5.below l4.size (fun j hj e => by have e' : j = w.heap.size := e; omega))
      have h25 : w2.heap.size ≤ w5.heap.size := by have := bl4.size; have := s5.size; omega
      obtain ⟨wb, hwb⟩ : ∃ wb, wb = w5.alloc (.cells #[] 3) := ⟨_, rfl⟩
      have bb : Below w5.heap.size w5 wb := by rw [hwb]; exact (Below.refl _ _).alloc (Nat.le_refl _) _
      have hDb : Blk wb w5.heap.size #[] 3 := by rw [hwb]; exact Blk.new w5 _ _
      have HRB := Lib.hid (hV5r.below bb)
      have HLIB := Lib.hid (show vs.length ≠ 0 → _ from fun h => nrow_lies HRB.out (i := 0) (by omega))
      have HDB := Lib.hid hDb
      have HWB := Lib.hid hwb
      have HBB := Lib.hid bb
      have HB1B := Lib.hid (B5.below bb)
      have HN5 := Lib.hid hN5
      have HB5 := Lib.hid B5
      have HR5 := Lib.hid R5
      have y2 : w5.cell? ⟨w.heap.size, 2, none⟩ = some (.slice v1 vs.length v3) := (B5.cell 2).trans rfl
      have hR5 : w.heap.size < w5.heap.size := by omega
      clear hown3 hb3 hown4 hgr4 hat4 hg4 hb4 B4 q1 g1 hw5 s5 bl4 hN5 hV5 hV5r hwb bb hDb B5 R5 y1 l4
      go_upto_region 10 with (first | (at_builtin; rw [← HWB.out]; refine wpList_copy (o := ⟨some 44, _, _, _, _, _⟩) rfl _ _ 22 rfl 3 i0 (.int .i64 0) 8 Tryz.underlying22 hi0 hz0 hz1 hz2 rfl (by decide) w5.heap.size rfl HDB.out v1 vs.length v3 (vs.map fun n => Value.int .i64 n) rfl (by simp) HLIB.out (by intro u hu; obtain ⟨y, _, rfl⟩ := List.mem_map.1 hu; rfl) (by omega) ?_; intro p' c' w6 hown6 hb6) | (at_builtin; refine wpList_append_lies (o := ⟨some 47, _, _, _, _, _⟩) _ rfl _ _ 22 rfl w5.heap.size 3 i0 (.int .i64 0) 1 8 Tryz.underlying22 hi0 hz0 hz1 hz2 rfl (by decide) _ _ _ rfl (hown6.alloc _) ⟨w6.heap.size, 0, none⟩ 1 1 [.int .i64 n] rfl rfl (one_new _ _ _) (by simp [Value.oneCell']) (by decide) (by unfold maxLen; omega) (by omega) (by have := hb6.size; have := HBB.out.size; simp; omega) _ rfl ?_; intro g7 cap7 w7 hown7 hgr7 hat7 hg7; have hb7 := ((hb6.alloc (by have := hb6.size; have := HBB.out.size; omega) _).grown hgr7 (by have := hb6.size; have := HBB.out.size; simp; omega) (fun j hj => (hown6.lt j hj).1)); have B7 := blk_low HB1B.out hb7 hR5; have q2 : w7.cell? ⟨w.heap.size, 2, none⟩ = some (.slice v1 vs.length v3) := (B7.cell 2).trans rfl; have g2 := B7.frozen 2) | fail)
      obtain ⟨w8, hw8⟩ : ∃ w8, w8 = w7.setCell ⟨w.heap.size, 2, none⟩ (.slice (some ⟨g7, 0, none⟩) (vs.length + 1) cap7) := ⟨_, rfl⟩
      rw [← hw8]
      have s8 : Stays (fun k => k = w.heap.size) w7 w8 := by rw [hw8]; exact Stays.cell (.refl _ w7) 2 _
      have B8 : Blk w8 w.heap.size (rnC (.slice a1 a2 a3) (.slice (some ⟨g4, 0, none⟩) (ns.length + 1) cap4) (.slice (some ⟨g7, 0, none⟩) (vs.length + 1) cap7) st er at0) 130 := by rw [hw8]; exact B7.set 2 _
      have bl7 : Below w5.heap.size w5 w7 := HBB.out.trans hb7
      have hN8 := own_stays (own_below HN5.out bl7) B7 (by decide) s8
      have hV8 := own_stays hown7 B7 (by decide) s8
      have R8 := (blk_low HR5.out bl7 (by omega)).stays s8 (by omega)
      have l7 := l5.trans (bl7.mono l5.size)
      have l8 := l7.trans (s8.below l7.size (fun j hj e => by have e' : j = w.heap.size := e; omega))
      have hN9 : w8.ownsRow b 9 1 (.slice (some ⟨g4, 0, none⟩) (ns.length + 1) cap4) (ns ++ [nm]).length ((ns ++ [nm]).map Value.string) := by
        have := row_base hN8 (show b ≤ w2.heap.size by omega)
        simpa using this
      have hV9 : IRow w8 b (.slice (some ⟨g7, 0, none⟩) (vs.length + 1) cap7) (vs ++ [n]) := by
        have := row_base hV8 (show b ≤ w5.heap.size by omega)
        unfold IRow
        simpa using this
      have hd9 : ((ns ++ [nm]).map txt).Nodup := by
        rw [List.map_append, List.nodup_append]
        refine ⟨HD.out, by simp, fun a ha c hc => ?_⟩
        obtain ⟨x, hx, rfl⟩ := List.mem_map.1 ha
        have : c = txt nm := by simpa using hc
        rw [this]
        exact fun e => HNN.out x hx (txt_eq e)
      have HFIN := Lib.hid (rset_fin (b := b) (A := .slice a1 a2 a3) (st := st) (er := er) (at0 := at0) l8 (by omega) R8 hN9 hV9 (by simp [HL.out]) (by rw [scopeUp_put HL.out, HSC.out]) hd9 (show (ns ++ [nm]).length ≤ m + 1 by simp; omega))
      clear hown6 hb6 hown7 hgr7 hat7 hg7 hb7 B7 q2 g2 hw8 s8 bl7 hN8 hV8 l7 l8 hN9 hV9 hd9 l5 y2
      go_wp2_with (first | (refine wpList_val (o := ⟨some 49, Op.load 130 _, _, _, _, _⟩) rfl (Instr.loadAt 130 _) rfl _ (rn_load B8) ?_) | (refine wpList_unit (o := ⟨none, Op.store 130 (.tmp 6) _, _, _, _, _⟩) rfl rfl (Instr.storeAt 130 _ _) rfl (blk_store (c' := rnC (.slice a1 a2 a3) (.slice (some ⟨g4, 0, none⟩) (ns.length + 1) cap4) (.slice (some ⟨g7, 0, none⟩) (vs.length + 1) cap7) st er at0) R8 size130 rfl rfl) ?_) | fail)
      exact ⟨rfl, _, res134 (setRow_heap w8 (w.heap.size + 1) _ (rnC (.slice a1 a2 a3) (.slice (some ⟨g4, 0, none⟩) (ns.length + 1) cap4) (.slice (some ⟨g7, 0, none⟩) (vs.length + 1) cap7) st er at0) 130 R8) rfl rfl, HFIN.out⟩
end Go.Proofs.YtddnmocoaahlfaaGreatDoor
