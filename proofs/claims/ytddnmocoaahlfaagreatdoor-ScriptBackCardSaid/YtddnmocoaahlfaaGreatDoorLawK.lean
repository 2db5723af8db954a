/-
  The law ScriptBack, walked. Conditions: the package-level variables hold what the program lays; the arguments lie in memory.
-/
import Derived.Test.YtddnmocoaahlfaaGreatDoorY1
import Derived.Test.YtddnmocoaahlfaaGreatDoorSmP
import Derived.Test.YtddnmocoaahlfaaGreatDoorZv
set_option linter.unusedVariables false
set_option linter.unusedSimpArgs false

namespace Go.Proofs.YtddnmocoaahlfaaGreatDoor
open Go.RowKit Go.Shelf
/-- A guarded operation that is wanted, in one step. -/
theorem wpList_valG {P : Program} {w w' : World} {ops : Array Oper} {rest : List Oper} {o : Oper} {a : Act} {Q : Exit → Act → World → Prop} (hw : Region.wanted o (yielded ops a.tmps) = true) (S : Sem Value) (hex : execOp a.eval o = (do pure (.value (← S))))
    (v : Value) (hrun : S.run P w = .ok v w') (h : wpList P ops Q rest (a.put o.dst v) w') : wpList P ops Q (o :: rest) a w := by
  refine wpList_step fun K hK => ?_
  simp only [hw, if_true]
  unfold Oper.wp
  simp only [hex, Sem.run_bind, Sem.run_pure, hrun, Result.andThen_ok]
  exact hK _ _ h
theorem txt_map_inj : ∀ {a b : List ByteArray}, a.map txt = b.map txt → a = b
  | [], [], _ => rfl
  | [], _ :: _, h => by cases h
  | _ :: _, [], h => by cases h
  | x :: a, y :: b, h => by
    simp only [List.map_cons, List.cons.injEq] at h
    rw [txt_inj' h.1, txt_map_inj h.2]
theorem word_len2 {k : Nat} (h1 : 1 ≤ k) (h2 : k ≤ 17) : (wordOf k).length ≤ 64 := by
  have : ∀ j : Fin 17, (wordOf (j.val + 1)).length ≤ 64 := by decide
  have := this ⟨k - 1, by omega⟩
  simp only at this
  rwa [show k - 1 + 1 = k by omega] at this
theorem text_back {k : Int} {f keep : List Int} (hf : f.length = 5) (hi : ∀ n ∈ f ++ keep, I64 n) (h : (textT k f keep).2 = 0) : ∃ kn : Nat, k = kn ∧ (textT k f keep).1.length ≤ 65536 ∧ parseT (textT k f keep).1 = (⟨kn, f, keep⟩, 0) := by
  have hb := act_back hf hi (t := (textT k f keep).1) (kind := k) (by rw [← h])
  rw [textT_nums] at h ⊢
  split at h
  · cases h
  rename_i hk
  rw [if_neg hk]
  cases hn : numsL k.toNat f keep with
  | none => rw [hn] at h; cases h
  | some l =>
    rw [hn] at h
    obtain ⟨h16, hm⟩ := numsL_len hf hn
    have hl := lineT_len (wordOf k.toNat) l (fun n hn => hi n (hm n hn))
    have hw := word_len2 (k := k.toNat) (by omega) (by omega)
    refine ⟨k.toNat, by omega, by simp only; omega, ?_⟩
    rw [textT_nums, if_neg hk, hn] at hb
    exact hb
theorem event_back {k : Int} {f : List Int} {x : List UInt8} (hf : f.length = 3) (hi : ∀ n ∈ f, I64 n) (hx : x.length ≤ 1000) (h : (evTextT k f x).2 = 0) : ∃ kn : Nat, k = kn ∧ (evTextT k f x).1.length ≤ 65536 ∧ parseEvT (evTextT k f x).1 = (⟨kn, f, x⟩, 0) := by
  have hb := ev_back hf hi (t := (evTextT k f x).1) (kind := k) (by rw [← h])
  have hlw : ∀ l : List Int, l.length ≤ 3 → (∀ n ∈ l, I64 n) → (lineT (evWord k.toNat) l).length ≤ 600 → True := fun _ _ _ _ => trivial
  unfold evTextT at h
  by_cases hk : k < 1 ∨ k > 25
  · rw [if_pos hk] at h; cases h
  have hw : (evWord k.toNat).length ≤ 64 := by
    have : ∀ j : Fin 25, (evWord (j.val + 1)).length ≤ 64 := by decide
    have := this ⟨k.toNat - 1, by omega⟩
    simp only at this
    rwa [show k.toNat - 1 + 1 = k.toNat by omega] at this
  have hl := lineT_len (evWord k.toNat) (f.take (evNums k.toNat)) (fun n hn => hi n (List.mem_of_mem_take hn))
  have hl3 : (f.take (evNums k.toNat)).length ≤ 3 := by rw [List.length_take]; omega
  refine ⟨k.toNat, by omega, ?_, hb⟩
  unfold evTextT
  rw [if_neg hk]
  repeat' split
  all_goals (try simp only [List.length_append, List.length_cons, List.length_nil]; omega)
theorem sum_le_13 : ∀ (l : List (List UInt8)), (∀ x ∈ l, x.length ≤ 5000) → (l.flatMap (· ++ [10])).length ≤ 5001 * l.length
  | [], _ => Nat.le_refl _
  | x :: l, h => by
    have h1 := sum_le_13 l (fun y hy => h y (by simp [hy]))
    have h2 := h x (by simp)
    simp only [List.flatMap_cons, List.length_append, List.length_cons, List.length_nil]
    omega
theorem plant_back2 {q : PV} {ss : List ByteArray} (hI : ∀ m ∈ (q.pl (ss.map txt)).ints, I64 m) (hn : ss.length ≤ 100) (hb : bytesOf q.al ss ≤ 4000) (h : (plantT (q.pl (ss.map txt))).2 = 0) : (plantT (q.pl (ss.map txt))).1.length ≤ 65536 ∧ parsePlantT (plantT (q.pl (ss.map txt))).1 = (q.pl (ss.map txt), 0, 0) := by
  have hbk := plant_back hI (t := (plantT (q.pl (ss.map txt))).1) (by rw [← h])
  refine ⟨?_, hbk⟩
  have hs := lines_short hI (by unfold bytesOf at hb; omega) (by unfold bytesOf at hb; omega) hn
  have h13 := sum_le_13 _ hs
  rw [plantLines_13] at h13
  unfold plantT
  split
  · simp only; omega
  · exact Nat.zero_le _
set_option maxRecDepth 100000 in
set_option maxHeartbeats 8000000 in
theorem back_walk {w : World} (he : Env w) (hev : Evs w) {k a b c d e : Int} {kv : Value} {kp : List Int} (hi : ∀ n ∈ [a, b, c, d, e] ++ kp, I64 n) (hkv : NRow w kv kp) (hm : kp.length ≤ maxLen)
    {vk va vb vc : Int} {x : ByteArray} (hva : I64 va) (hvb : I64 vb) (hvc : I64 vc) (hxm : x.size ≤ maxLen)
    {q : PV} {bv : Value} {ss : List ByteArray} (hs : SRw w bv ss) (hsm : ss.length ≤ maxLen) (hI : ∀ m ∈ (q.pl (ss.map txt)).ints, I64 m) :
    Calls Tryz.prog 3 #[actV k a b c d e kv, evA vk va vb vc x, .agg (q.cells bv)] w (RetT w) := by
  obtain ⟨p1, cc, rfl⟩ := hkv.form
  obtain ⟨p, cp, rfl⟩ := hs.form
  have hm' : kp.length ≤ 9223372036854775807 := by unfold maxLen at hm; omega
  have hxm' : x.size ≤ 9223372036854775807 := by unfold maxLen at hxm; omega
  obtain ⟨w3, hw3⟩ : ∃ w3, w3 = ((w.alloc (.cells #[.int .i64 k, .int .i64 a, .int .i64 b, .int .i64 c, .int .i64 d, .int .i64 e, .slice p1 kp.length cc] 24)).alloc (.cells #[.int .i64 vk, .int .i64 va, .int .i64 vb, .int .i64 vc, .string x] 26)).alloc (.cells (q.cells (.slice p ss.length cp)) 35) := ⟨_, rfl⟩
  have l3 : Below w.heap.size w w3 := by rw [hw3]; exact (((Below.refl _ w).alloc (Nat.le_refl _) _).alloc (by simp) _).alloc (by simp; omega) _
  have B1 : Blk w3 w.heap.size #[.int .i64 k, .int .i64 a, .int .i64 b, .int .i64 c, .int .i64 d, .int .i64 e, .slice p1 kp.length cc] 24 := by rw [hw3]; exact ((Blk.new w _ _).alloc _).alloc _
  have B2 : Blk w3 (w.heap.size + 1) #[.int .i64 vk, .int .i64 va, .int .i64 vb, .int .i64 vc, .string x] 26 := by rw [hw3]; exact (Blk.newAt (by simp) _ _).alloc _
  have B3 : Blk w3 (w.heap.size + 1 + 1) (q.cells (.slice p ss.length cp)) 35 := by rw [hw3]; exact Blk.newAt (by simp) _ _
  have hfew : ∀ W, Below w.heap.size w W → Calls Tryz.prog 18 #[.agg (q.cells (.slice p ss.length cp))] W (RetFew W q.al ss) := fun W hW => few_any (q := q) (hs.below hW) rfl hsm
  have htext : ss.length ≤ 100 → bytesOf q.al ss ≤ 4000 → ∀ W, Below w.heap.size w W → Calls Tryz.prog 25 #[.agg (q.cells (.slice p ss.length cp))] W (RetTE W (plantT (q.pl (ss.map txt)))) := fun h1 h2 W hW => plantText_any (he.below hW).tab (q := q) (hs.below hW) rfl (by omega) h2 hI
  have hback := fun h1 h2 => plant_back2 (q := q) (ss := ss) hI h1 h2
  have hsame : ∀ (q' : PV) (bv' : Value) (ss' : List ByteArray) (W : World), Below w.heap.size w W → SRw W bv' ss' → q'.pl (ss'.map txt) = q.pl (ss.map txt) → Calls Tryz.prog 27 #[.agg (q.cells (.slice p ss.length cp)), .agg (q'.cells bv')] W (fun ex w' => ex = .returned (.bool true) ∧ Below W.heap.size W w') := fun q' bv' ss' W hW hr hq => by
    obtain ⟨h1, h2⟩ := PV.pl_inj hq
    subst h1
    have h3 := txt_map_inj h2
    subst h3
    exact samePlant_eq (hs.below hW) hr hsm
  obtain ⟨pl, hpl⟩ : ∃ pl, pl = q.pl (ss.map txt) := ⟨_, rfl⟩
  rw [← hpl] at htext hback hsame
  have ht1 : ∀ W, Below w.heap.size w W → Calls Tryz.prog 20 #[actV k a b c d e (.slice p1 kp.length cc)] W (RetTE W (textT k [a, b, c, d, e] kp)) := fun W hW => text_any (he.below hW) (kind := k) hi (hkv.below hW)
  have hb1 := text_back (k := k) (f := [a, b, c, d, e]) (keep := kp) rfl hi
  have ht2 : x.size ≤ 1000 → ∀ W, Below w.heap.size w W → Calls Tryz.prog 23 #[evA vk va vb vc x] W (RetTE W (evTextT vk [va, vb, vc] (txt x))) := fun hx W hW => evText_any (he.below hW) (hev.below hW) (k := vk) (s := x) hva hvb hvc (by omega)
  have hb2 : x.size ≤ 1000 → (evTextT vk [va, vb, vc] (txt x)).2 = 0 → ∃ kn : Nat, vk = kn ∧ (evTextT vk [va, vb, vc] (txt x)).1.length ≤ 65536 ∧ parseEvT (evTextT vk [va, vb, vc] (txt x)).1 = (⟨kn, [va, vb, vc], txt x⟩, 0) := fun hx h => event_back rfl (fun n hn => by
    simp only [List.mem_cons, List.not_mem_nil, or_false] at hn
    rcases hn with rfl | rfl | rfl
    · exact hva
    · exact hvb
    · exact hvc) (by simp; omega) h
  have HE := Lib.hid he
  have HEV := Lib.hid hev
  have HKV := Lib.hid hkv
  have HW3 := Lib.hid hw3
  have HF := Lib.hid hfew
  have HTX := Lib.hid htext
  have HBK := Lib.hid hback
  have HSM := Lib.hid hsame
  have HT1 := Lib.hid ht1
  have HB1 := Lib.hid hb1
  have HT2 := Lib.hid ht2
  have HB2 := Lib.hid hb2
  have HKM := Lib.hid hm
  have HA := Lib.hid (fun W hW => awake_any (he.below (w' := W) hW))
  have y6 : w3.cell? ⟨w.heap.size, 6, none⟩ = some (.slice p1 kp.length cc) := (B1.cell 6).trans rfl
  have x4 : w3.cell? ⟨w.heap.size + 1, 4, none⟩ = some (.string x) := (B2.cell 4).trans rfl
  generalize textT k [a, b, c, d, e] kp = r1 at HT1 HB1
  generalize evTextT vk [va, vb, vc] (txt x) = r2 at HT2 HB2
  obtain ⟨t1, e1⟩ := r1
  obtain ⟨t2, e2⟩ := r2
  simp only at HB1 HB2
  clear he hev hkv hw3 hfew htext hback hsame ht1 hb1 ht2 hb2 hs hsm hI hi hva hvb hvc hxm hm hpl
  go_enter Tryz.func3, Tryz.ntmps3
  go_upto_region 1 with fail
  rw [← HW3.out]
  obtain ⟨cs, hcs⟩ : ∃ cs, cs = q.cells (.slice p ss.length cp) := ⟨_, rfl⟩
  have hcz : cs.size = 19 := by rw [hcs]; rfl
  rw [← hcs] at B3 HF HTX HSM ⊢
  have HCZ := Lib.hid hcz
  clear hcs hcz HW3
  by_cases hk : 100 < kp.length
  · have d1 : decide ((100 : Int) < (kp.length : Int)) = true := decide_eq_true (by omega)
    clear hk
    go_wp2_with fail
    refine (HA.out w3 l3).mono ?_
    rintro ex w4 ⟨rfl, b4⟩
    go_wp2_with fail
    go_ret
    exact ⟨rfl, l3.trans (b4.mono l3.size)⟩
  have d1 : decide ((100 : Int) < (kp.length : Int)) = false := decide_eq_false (by omega)
  by_cases hx : 1000 < x.size
  · have d2 : decide ((1000 : Int) < (x.size : Int)) = true := decide_eq_true (by omega)
    clear hk hx
    go_wp2_with fail
    refine (HA.out w3 l3).mono ?_
    rintro ex w4 ⟨rfl, b4⟩
    go_wp2_with fail
    go_ret
    exact ⟨rfl, l3.trans (b4.mono l3.size)⟩
  have d2 : decide ((1000 : Int) < (x.size : Int)) = false := decide_eq_false (by omega)
  have HX := Lib.hid (show x.size ≤ 1000 by omega)
  clear hk hx
  go_wp2_with (refine wpList_valG (o := ⟨some 27, Op.load 35 _, _, _, _, _⟩) rfl (Instr.loadAt 35 _) rfl _ (pl_load B3 HCZ.out) ?_)
  refine (HF.out w3 l3).mono ?_
  rintro ex w4 ⟨b4, bb, rfl, hb⟩
  have l4 := l3.trans (b4.mono l3.size)
  replace B1 := B1.below b4
  replace B2 := B2.below b4
  replace B3 := B3.below b4
  clear HF y6 x4
  cases bb with
  | false =>
    clear hb
    go_wp2_with fail
    refine (HA.out w4 l4).mono ?_
    rintro ex w5 ⟨rfl, b5⟩
    go_wp2_with fail
    go_ret
    exact ⟨rfl, l4.trans (b5.mono l4.size)⟩
  | true =>
  obtain ⟨hss, hby⟩ := hb rfl
  have HP2 := Lib.hid (HTX.out hss hby)
  have HK2 := Lib.hid (HBK.out hss hby)
  clear hb hss hby HTX HBK d1 d2
  obtain ⟨s0, s1, s2, s3, s4, s5, s6⟩ := acts_cells B1
  go_wp2_with fail
  refine (HT1.out w4 l4).mono ?_
  rintro ex w5 ⟨b5, tb, rfl, htb⟩
  have l5 := l4.trans (b5.mono l4.size)
  replace B1 := B1.below b5
  replace B2 := B2.below b5
  replace B3 := B3.below b5
  have HTB := Lib.hid htb
  clear htb HT1 s0 s1 s2 s3 s4 s5 s6 b5 b4
  simp only
  go_upto_if 38 with fail
  go_cut [6] (fun v wx => v = .bool false ∧ Below w5.heap.size w5 wx)
  case first =>
    by_cases h0 : e1 = 0
    · have z : (e1 == 0) = true := by simp [h0]
      obtain ⟨kn, rfl, hlen, hpar⟩ := HB1.out h0
      have HP := parseP_any (HE.out.below l5) tb (by have : (txt tb).length = tb.size := by simp
                                                     rw [HTB.out] at this; simp only at this; omega)
      rw [HTB.out] at HP
      simp only at HP
      rw [hpar] at HP
      have HPH := Lib.hid HP
      clear HP hpar hlen h0
      go_wp2_with fail
      refine HPH.out.mono ?_
      rintro ex w6 ⟨b6, a', b', c', d', f', p', n', m', rfl, hf, hn⟩
      simp only at hf hn ⊢
      simp only [List.cons.injEq, and_true] at hf
      obtain ⟨rfl, rfl, rfl, rfl, rfl⟩ := hf
      obtain ⟨w7, hw7⟩ : ∃ w7, w7 = w6.alloc (.cells #[.int .i64 kn, .int .i64 a, .int .i64 b, .int .i64 c, .int .i64 d, .int .i64 e, .slice p' n' m'] 24) := ⟨_, rfl⟩
      have b67 : Below w6.heap.size w6 w7 := by rw [hw7]; exact (Below.refl _ _).alloc (Nat.le_refl _) _
      have C7 : Blk w7 w6.heap.size #[.int .i64 kn, .int .i64 a, .int .i64 b, .int .i64 c, .int .i64 d, .int .i64 e, .slice p' n' m'] 24 := by rw [hw7]; exact Blk.new w6 _ _
      have b57 := b6.trans (b67.mono b6.size)
      have l7 := l5.trans (b57.mono l5.size)
      have B17 := B1.below b57
      have HS := Lib.hid (same_eq (k := kn) (a := a) (b := b) (c := c) (d := d) (e := e) (HKV.out.below l7) (hn.below b67) HKM.out)
      have HW7 := Lib.hid hw7
      have BB := Lib.hid b57
      obtain ⟨s0, s1, s2, s3, s4, s5, s6⟩ := acts_cells B17
      obtain ⟨t0, t1, t2, t3, t4, t5, t6⟩ := acts_cells C7
      clear hw7 hn HPH B17 C7 b6 b67 b57
      go_upto_region 6 with fail
      rw [← HW7.out]
      go_wp2_with fail
      refine HS.out.mono ?_
      rintro ex w8 ⟨rfl, b8⟩
      clear s0 s1 s2 s3 s4 s5 s6 t0 t1 t2 t3 t4 t5 t6
      go_wp2_with fail
      go_meet
      exact ⟨rfl, BB.out.trans (b8.mono BB.out.size)⟩
    · have z : (e1 == 0) = false := by simp [h0]
      clear h0
      go_wp2_with fail
      go_meet
      exact ⟨rfl, Below.refl _ _⟩
  case rest =>
  obtain ⟨rfl, bc⟩ := hcut
  have lc := l5.trans (bc.mono l5.size)
  replace B2 := B2.below bc
  replace B3 := B3.below bc
  clear B1 HB1 HTB bc l5 l4 HKV HKM
  have HT := Lib.hid (HT2.out HX.out wc lc)
  obtain ⟨x0, x1, x2, x3, x4⟩ := ev_cells B2
  clear HT2
  go_wp2_with fail
  refine HT.out.mono ?_
  rintro ex w5 ⟨b5, tb, rfl, htb⟩
  have l5 := lc.trans (b5.mono lc.size)
  replace B2 := B2.below b5
  replace B3 := B3.below b5
  have HTB := Lib.hid htb
  clear htb HT x0 x1 x2 x3 x4 b5
  simp only
  go_upto_if 58 with fail
  go_cut [6] (fun v wx => v = .bool false ∧ Below w5.heap.size w5 wx)
  case first =>
    by_cases h0 : e2 = 0
    · have z : (e2 == 0) = true := by simp [h0]
      obtain ⟨kn, rfl, hlen, hpar⟩ := HB2.out HX.out h0
      have HP := parseEvP_any (HE.out.below l5) (HEV.out.below l5) tb (by have : (txt tb).length = tb.size := by simp
                                                                          rw [HTB.out] at this; simp only at this; omega)
      rw [HTB.out] at HP
      simp only at HP
      rw [hpar] at HP
      have HPH := Lib.hid HP
      clear HP hpar hlen h0
      go_wp2_with fail
      refine HPH.out.mono ?_
      rintro ex w6 ⟨b6, a', b', c', x', rfl, hf, hx'⟩
      simp only at hf hx' ⊢
      simp only [List.cons.injEq, and_true] at hf
      obtain ⟨rfl, rfl, rfl⟩ := hf
      obtain rfl := txt_inj' hx'
      obtain ⟨w7, hw7⟩ : ∃ w7, w7 = w6.alloc (.cells #[.int .i64 kn, .int .i64 va, .int .i64 vb, .int .i64 vc, .string x'] 26) := ⟨_, rfl⟩
      have b67 : Below w6.heap.size w6 w7 := by rw [hw7]; exact (Below.refl _ _).alloc (Nat.le_refl _) _
      have C7 : Blk w7 w6.heap.size #[.int .i64 kn, .int .i64 va, .int .i64 vb, .int .i64 vc, .string x'] 26 := by rw [hw7]; exact Blk.new w6 _ _
      have b57 := b6.trans (b67.mono b6.size)
      have B27 := B2.below b57
      have HW7 := Lib.hid hw7
      have BB := Lib.hid b57
      obtain ⟨s0, s1, s2, s3, s4⟩ := ev_cells B27
      obtain ⟨t0, t1, t2, t3, t4⟩ := ev_cells C7
      clear hw7 hx' HPH B27 C7 b6 b67 b57
      go_upto_region 11 with fail
      rw [← HW7.out]
      go_wp2_with fail
      go_meet
      exact ⟨rfl, BB.out⟩
    · have z : (e2 == 0) = false := by simp [h0]
      clear h0
      go_wp2_with fail
      go_meet
      exact ⟨rfl, Below.refl _ _⟩
  case rest =>
  obtain ⟨rfl, bc⟩ := hcut
  have ld := l5.trans (bc.mono l5.size)
  replace B3 := B3.below bc
  clear B2 HB2 HTB bc l5 lc HX
  have HT := Lib.hid (HP2.out _ ld)
  clear HP2
  go_wp2_with (refine wpList_val (o := ⟨some 72, Op.load 35 _, _, _, _, _⟩) rfl (Instr.loadAt 35 _) rfl _ (pl_load B3 HCZ.out) ?_)
  refine HT.out.mono ?_
  rintro ex w5 ⟨b5, tb, rfl, htb⟩
  have l5 := ld.trans (b5.mono ld.size)
  replace B3 := B3.below b5
  have HTB := Lib.hid htb
  clear htb HT b5 ld
  simp only
  obtain ⟨e3, he3⟩ : ∃ e3, e3 = (plantT pl).2 := ⟨_, rfl⟩
  rw [← he3] at HK2 ⊢
  obtain ⟨t3, ht3⟩ : ∃ t3, t3 = (plantT pl).1 := ⟨_, rfl⟩
  rw [← ht3] at HK2 HTB
  clear he3 ht3
  go_upto_if 77 with fail
  go_cut [6] (fun v wx => v = .bool false ∧ Below w5.heap.size w5 wx)
  case first =>
    by_cases h0 : e3 = 0
    · have z : (e3 == 0) = true := by simp [h0]
      obtain ⟨hlen, hpar⟩ := HK2.out h0
      have HP := parsePlant_any (HE.out.below l5) tb (by have : (txt tb).length = tb.size := by simp
                                                         rw [HTB.out] at this; omega)
      rw [HTB.out, hpar] at HP
      have HPH := Lib.hid HP
      clear HP hpar hlen h0
      go_wp2_with fail
      refine HPH.out.mono ?_
      rintro ex w6 ⟨b6, q', bv', ss', rfl, hr, hq⟩
      simp only at hq ⊢
      obtain ⟨ba, bc, rfl⟩ := hr.form
      obtain ⟨w7, hw7⟩ : ∃ w7, w7 = w6.alloc (.cells (PV.zero.cells (.slice none 0 0)) 35) := ⟨_, rfl⟩
      have b67 : Below w6.heap.size w6 w7 := by rw [hw7]; exact (Below.refl _ _).alloc (Nat.le_refl _) _
      have B7 : Blk w7 w6.heap.size (PV.zero.cells (.slice none 0 0)) 35 := by rw [hw7]; exact Blk.new w6 _ _
      have hst := blk_store (c' := q'.cells (.slice ba ss'.length bc)) B7 size35' rfl rfl
      have B8 := setRow_heap w7 w6.heap.size _ (q'.cells (.slice ba ss'.length bc)) 35 B7
      have b68 : Below w6.heap.size w6 (w7.setRow w6.heap.size (q'.cells (.slice ba ss'.length bc))) := b67.trans ((setRow_stays w7 w6.heap.size (q'.cells (.slice ba ss'.length bc))).below b67.size (fun j hj e => by have e' : j = w6.heap.size := e; omega))
      have hz := zero35 w6
      rw [← hw7] at hz
      have hcall := fun W (hW : Below w.heap.size w W) (hr' : SRw W (.slice ba ss'.length bc) ss') => HSM.out q' _ ss' W hW hr' hq
      obtain ⟨cs', hcs'⟩ : ∃ cs', cs' = q'.cells (.slice ba ss'.length bc) := ⟨_, rfl⟩
      have hcz' : cs'.size = 19 := by rw [hcs']; rfl
      rw [← hcs'] at hst B8 b68 hcall ⊢
      obtain ⟨w8, hw8⟩ : ∃ w8, w8 = w7.setRow w6.heap.size cs' := ⟨_, rfl⟩
      rw [← hw8] at hst B8 b68
      have b58 := b6.trans (b68.mono b6.size)
      have l8 := l5.trans (b58.mono l5.size)
      have B38 := B3.below b58
      have HC := Lib.hid (hcall w8 l8 (hr.below b68))
      have HZ := Lib.hid hz
      have HST := Lib.hid hst
      have HCZ2 := Lib.hid hcz'
      have BB := Lib.hid b58
      clear hz hst hcz' hcs' hq hr B7 b67 hw7 hw8 hcall b68 b6 b58 HPH l8
      go_upto_region 16 with (first | (refine wpList_val (o := ⟨some 13, _, _, _, _, _⟩) rfl (Instr.alloc 35 true _) rfl _ HZ.out ?_) | (refine wpList_unit (o := ⟨none, Op.store 35 (.tmp 13) _, _, _, _, _⟩) rfl rfl (Instr.storeAt 35 _ _) rfl HST.out ?_) | fail)
      go_wp2_with (first | (refine wpList_valG (o := ⟨some 91, Op.load 35 _, _, _, _, _⟩) rfl (Instr.loadAt 35 _) rfl _ (pl_load B38 HCZ.out) ?_) | (refine wpList_valG (o := ⟨some 92, Op.load 35 _, _, _, _, _⟩) rfl (Instr.loadAt 35 _) rfl _ (pl_load B8 HCZ2.out) ?_) | fail)
      refine HC.out.mono ?_
      rintro ex w9 ⟨rfl, b9⟩
      go_wp2_with fail
      go_meet
      exact ⟨rfl, BB.out.trans (b9.mono BB.out.size)⟩
    · have z : (e3 == 0) = false := by simp [h0]
      clear h0
      go_wp2_with fail
      go_meet
      exact ⟨rfl, Below.refl _ _⟩
  case rest =>
  obtain ⟨rfl, bc⟩ := hcut
  have ld := l5.trans (bc.mono l5.size)
  have HAA := Lib.hid (HA.out _ ld)
  clear HA B3 HK2 HTB
  go_wp2_with fail
  refine HAA.out.mono ?_
  rintro ex w9 ⟨rfl, b9⟩
  go_wp2_with fail
  go_ret
  exact ⟨rfl, ld.trans (b9.mono ld.size)⟩
end Go.Proofs.YtddnmocoaahlfaaGreatDoor
