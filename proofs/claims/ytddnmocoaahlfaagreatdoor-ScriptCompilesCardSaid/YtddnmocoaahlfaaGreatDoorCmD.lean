/-
  The reference's Run.eval. Conditions: words that are expressions, of at most 65536 bytes; the rows lie in memory.
-/
import Derived.Test.YtddnmocoaahlfaaGreatDoorCmC
set_option linter.unusedVariables false
set_option linter.unusedSimpArgs false
namespace Go.Proofs.YtddnmocoaahlfaaGreatDoor
open Go.RowKit Go.Shelf
theorem exprs_get : ∀ {ws : List (List UInt8)} {xs : List Ex}, exprsL ws = some xs → xs.length = ws.length ∧ ∀ i (h : i < ws.length), ∃ x, xs[i]? = some x ∧ parseE ws[i] = some x
  | [], xs, h => by
    have h : some [] = some xs := h
    injection h with h
    subst h
    exact ⟨rfl, fun i hi => by cases hi⟩
  | w :: ws, xs, h => by
    have h : (match parseE w with | none => none | some x => match exprsL ws with | none => none | some xs => some (x :: xs)) = some xs := h
    cases hw : parseE w with
    | none => rw [hw] at h; cases h
    | some x =>
      rw [hw] at h
      cases hr : exprsL ws with
      | none => rw [hr] at h; cases h
      | some ys =>
        rw [hr] at h
        injection h with h
        subst h
        obtain ⟨h1, h2⟩ := exprs_get hr
        refine ⟨by simp [h1], fun i hi => ?_⟩
        cases i with
        | zero => exact ⟨x, rfl, hw⟩
        | succ i =>
          obtain ⟨y, h3, h4⟩ := h2 i (by simpa using hi)
          exact ⟨y, by simpa using h3, by simpa using h4⟩
def evFrom (acc : List Int) (σ : List UInt8 → Option Int) (xs : List Ex) : Except Int (List Int) := match evalAll σ xs with | .error e => .error e | .ok l => .ok (acc ++ l)
theorem evFrom_start (σ : List UInt8 → Option Int) (xs : List Ex) : evFrom [] σ xs = evalAll σ xs := by
  unfold evFrom
  cases evalAll σ xs <;> rfl
theorem evFrom_end (acc : List Int) (σ : List UInt8 → Option Int) : evFrom acc σ [] = .ok acc := by
  unfold evFrom
  simp [evalAll]
theorem evFrom_ok {acc : List Int} {σ : List UInt8 → Option Int} {x : Ex} {xs : List Ex} {v : Int} (h : x.eval σ = .ok v) : evFrom acc σ (x :: xs) = evFrom (acc ++ [v]) σ xs := by
  unfold evFrom
  rw [evalAll, h]
  simp only
  cases evalAll σ xs with
  | error e => rfl
  | ok l => simp
theorem evFrom_err {acc : List Int} {σ : List UInt8 → Option Int} {x : Ex} {xs : List Ex} {e : Int} (h : x.eval σ = .error e) : evFrom acc σ (x :: xs) = .error e := by
  unfold evFrom
  rw [evalAll, h]
theorem evalT_ok {t : List UInt8} {σ : List UInt8 → Option Int} {x : Ex} {v : Int} (hp : parseE t = some x) (h : x.eval σ = .ok v) : evalT t σ = (v, 0) := by
  unfold evalT; rw [hp]; simp only; rw [h]
theorem evalT_err {t : List UInt8} {σ : List UInt8 → Option Int} {x : Ex} {e : Int} (hp : parseE t = some x) (h : x.eval σ = .error e) : evalT t σ = (0, e) := by
  unfold evalT; rw [hp]; simp only; rw [h]
theorem own_below {w w' : World} {b : Nat} {e : TypeId} {size : Nat} {v : Value} {n : Nat} {xs : List Value} (h : w.ownsRow b e size v n xs) (bl : Below w.heap.size w w') : w'.ownsRow b e size v n xs :=
  row_typed h (fun k cur z hk => bl.block k (Array.getElem?_eq_some_iff.1 hk).1)
theorem own_stays {w w' : World} {b : Nat} {e : TypeId} {size : Nat} {v : Value} {n : Nat} {xs : List Value} {R : Nat} {cs : Array Value} {T : TypeId} (h : w.ownsRow b e size v n xs) (hb : Blk w R cs T) (hT : T ≠ e) (s : Stays (fun k => k = R) w w') : w'.ownsRow b e size v n xs :=
  row_typed h (fun k cur z hk => s.block k (Array.getElem?_eq_some_iff.1 hk).1 (fun ek => by
    have ek : k = R := ek
    subst ek
    unfold Blk at hb
    rw [hb] at hk
    injection hk with hk
    injection hk with _ hk
    exact hT hk))
def RetRE (w : World) (A N V : Value) (st er at0 k : Int) (r : Except Int (List Int)) (x : Ending) (w' : World) : Prop := Below w.heap.size w w' ∧ match r with
  | .ok l => ∃ v, x = .returned (.tuple #[rnV A N V st er at0, v]) ∧ IRow w' w.heap.size v l
  | .error e => x = .returned (.tuple #[rnV A N V st e k, .slice none 0 0])
set_option maxRecDepth 100000 in
set_option maxHeartbeats 8000000 in
theorem reval_any {w : World} {A N V W : Value} {ns ws : List ByteArray} {vs : List Int} {xs : List Ex} (hA : Slc A) (hN : SRw w N ns) (hV : NRow w V vs) (hnl : ns.length ≤ 131072) (hvl : vs.length ≤ 131072) (hW : SRw w W ws) (hwl : ws.length ≤ 131072) (hwz : ∀ x ∈ ws, x.size ≤ 65536)
    (hx : exprsL (ws.map txt) = some xs) (st er at0 k : Int) : Calls Tryz.prog 133 #[rnV A N V st er at0, W, .int .i64 k] w (RetRE w A N V st er at0 k (evalAll (scopeOf ns vs) xs)) := by
  obtain ⟨i0, hi0, hz0, hz1, hz2⟩ := info_parts info3
  obtain ⟨n1, n3, rfl⟩ := hN.form
  obtain ⟨v1, v3, rfl⟩ := hV.form
  obtain ⟨p1, p3, rfl⟩ := hW.form
  have hf := fun W' (e : Int) => rfail_any W' hA ⟨n1, ns.length, n3, rfl⟩ ⟨v1, vs.length, v3, rfl⟩ st er at0 e k
  obtain ⟨a1, a2, a3, rfl⟩ := hA
  obtain ⟨w2, hw2, l2, B1, B2, z2⟩ := rn_pre w (rnC (.slice a1 a2 a3) (.slice n1 ns.length n3) (.slice v1 vs.length v3) st er at0)
  obtain ⟨res, hres⟩ : ∃ res, res = evalAll (scopeOf ns vs) xs := ⟨_, rfl⟩
  rw [← hres]
  rw [← evFrom_start] at hres
  obtain ⟨hxl, hxg0⟩ := exprs_get hx
  have hxg : ∀ i (h : i < ws.length), ∃ x, xs[i]? = some x ∧ parseE (txt ws[i]) = some x := fun i h => by
    obtain ⟨x, h1, h2⟩ := hxg0 i (by rw [List.length_map]; exact h)
    rw [List.getElem_map] at h2
    exact ⟨x, h1, h2⟩
  rw [List.length_map] at hxl
  clear hxg0
  have HF := Lib.hid hf
  have HW := Lib.hid hw2
  have HWR := Lib.hid (hW.below l2)
  have HNR := Lib.hid (hN.below l2)
  have HVR := Lib.hid (hV.below l2)
  have HWZ := Lib.hid hwz
  have HXG := Lib.hid hxg
  have HXL := Lib.hid hxl
  have HRES := Lib.hid hres
  have HB1 := Lib.hid B1
  have HB2 := Lib.hid B2
  have hR2 : w.heap.size + 1 < w2.heap.size := by omega
  clear hf hw2 hW hN hV hwz hxg hxl hres hx B1 B2 z2
  go_enter Tryz.func133, Tryz.ntmps133
  go_upto_region 1 with fail
  rw [← HW.out]
  go_wp2_with fail
  go_loopw [9, 8] (fun t9 t8 wr => ∃ (i : Nat) (l : List Int) (t1 : Option Addr) (t3 : Nat), t9 = .int .i64 i ∧ t8 = .slice t1 l.length t3 ∧ i ≤ ws.length ∧ l.length = i ∧ wr.ownsRow w2.heap.size 3 1 t8 l.length (l.map fun n => Value.int .i64 n) ∧ Below w2.heap.size w2 wr ∧ evFrom l (scopeOf ns vs) (xs.drop i) = res) (fun t9 t8 wr => ws.length - (intOf t9).toNat)
  case atStart => exact ⟨0, [], none, 0, rfl, rfl, Nat.zero_le _, rfl, World.ownsRow_nil _ _ _ _, Below.refl _ _, by rw [List.drop_zero]; exact HRES.out.symm⟩
  case round =>
    obtain ⟨i, l, t1, t3, rfl, rfl, hi, hli, hown, hbl, hev⟩ := hrel
    have hszr := hbl.size
    have HLI := Lib.hid hli
    have hll : l.length ≤ 131072 := by omega
    have HEV := Lib.hid hev
    clear hli hev
    have B1r := HB1.out.below hbl
    have B2r := HB2.out.below hbl
    by_cases hlt : i < ws.length
    · obtain ⟨L, o, rfl, ck0⟩ := srw_get HWR.out hlt
      have ck := cell_below ck0 hbl
      have hcc : ws.length ≤ p3 := (srw_cap HWR.out).resolve_left (fun e => by rw [e] at hlt; simp at hlt)
      obtain ⟨x, hxi, hpe⟩ := HXG.out i hlt
      have hxz := HWZ.out _ (List.getElem_mem hlt)
      have hdr : xs.drop i = x :: xs.drop (i + 1) := by
        obtain ⟨h1, h2⟩ := List.getElem?_eq_some_iff.1 hxi
        rw [List.drop_eq_getElem_cons h1, h2]
      obtain ⟨t, ht⟩ : ∃ t, t = ws[i] := ⟨_, rfl⟩
      rw [← ht] at ck hpe hxz
      obtain ⟨r, hr0⟩ : ∃ r, r = evalT (txt t) (scopeOf ns vs) := ⟨_, rfl⟩
      have hcall : ∀ W', Below wr.heap.size wr W' → Calls Tryz.prog 35 #[.string t, .slice n1 ns.length n3, .slice v1 vs.length v3] W' (fun e w' => Below wr.heap.size wr w' ∧ e = .returned (.tuple #[.int .i64 r.1, .int .i64 r.2])) := fun W' hW' => by
        rw [hr0]
        exact (evalR_any (w := W') (s := t) ⟨(HNR.out.below hbl).below hW', (HVR.out.below hbl).below hW', hxz, hnl, hvl, rfl, rfl⟩).mono fun e w' ⟨b, h⟩ => ⟨hW'.trans (b.mono hW'.size), h⟩
      have HC := Lib.hid hcall
      have HPE := Lib.hid hpe
      have HDR := Lib.hid hdr
      have HR0 := Lib.hid hr0
      obtain ⟨y0, y1, y2, y3, y4, y5⟩ := rn_cells B1r
      clear hcall hpe hdr hxi ck0 ht hxz hr0
      obtain ⟨n, e⟩ := r
      simp only at HC
      go_upto_region 5 with fail
      go_cut [10, 11] (fun v10 v11 wx => v10 = .int .i64 n ∧ v11 = .int .i64 e ∧ Below wr.heap.size wr wx)
      case first =>
        go_region_with (first | (go_at_call 35; (with_reducible refine (HC.out _ (by first | exact Below.refl _ _ | exact (Below.refl _ _).drew)).mono ?_); rintro ex wz ⟨bz, rfl⟩))
        all_goals
          go_wp2_with fail
          go_meet
          exact ⟨rfl, rfl, bz⟩
      case rest =>
      obtain ⟨rfl, rfl, bc⟩ := hcut
      have bl2 := hbl.trans (bc.mono hszr)
      have B1c := B1r.below bc
      have B2c := B2r.below bc
      have hownc := own_below hown bc
      have hszc := bl2.size
      clear y0 y1 y2 y3 y4 y5 B1r B2r hown HC ck
      cases hv : x.eval (scopeOf ns vs) with
      | error e' =>
        have hev : (n, e) = (0, e') := HR0.out.trans (evalT_err HPE.out hv)
        injection hev with h1 h2
        subst h1
        subst h2
        have hr : res = .error e := by rw [← HEV.out, HDR.out, evFrom_err hv]
        have he := eval_err hv
        have d : (e != 0) = true := by simp; omega
        have HR := Lib.hid hr
        have HFC := Lib.hid (HF.out wc e)
        obtain ⟨y0, y1, y2, y3, y4, y5⟩ := rn_cells B1c
        clear hr he hv
        go_wp2_with fail
        refine HFC.out.mono ?_
        rintro ex w5 ⟨b5, rfl⟩
        have l5 := l2.trans ((bl2.trans (b5.mono bl2.size)).mono l2.size)
        have B25 := B2c.below b5
        clear y0 y1 y2 y3 y4 y5
        go_wp2_with (refine wpList_unit (o := ⟨none, Op.store 130 (.tmp 6) _, _, _, _, _⟩) rfl rfl (Instr.storeAt 130 _ _) rfl (blk_store (c' := rnC (.slice a1 a2 a3) (.slice n1 ns.length n3) (.slice v1 vs.length v3) st e k) B25 size130 rfl rfl) ?_)
        refine ⟨rfl, _, res133 (setRow_heap w5 (w.heap.size + 1) _ (rnC (.slice a1 a2 a3) (.slice n1 ns.length n3) (.slice v1 vs.length v3) st e k) 130 B25) rfl rfl rfl, ?_⟩
        unfold RetRE
        rw [HR.out]
        exact ⟨l5.trans ((setRow_stays _ _ _).below l5.size (fun j hj e => by have e' : j = w.heap.size + 1 := e; omega)), rfl⟩
      | ok n' =>
        have hev : (n, e) = (n', 0) := HR0.out.trans (evalT_ok HPE.out hv)
        injection hev with h1 h2
        subst h1
        subst h2
        have hr : evFrom (l ++ [n]) (scopeOf ns vs) (xs.drop (i + 1)) = res := by rw [← HEV.out, HDR.out, evFrom_ok hv]
        have HR := Lib.hid hr
        clear hr hv
        go_wp2_with (at_builtin; refine wpList_append_lies _ rfl _ _ 22 rfl w2.heap.size 3 i0 (.int .i64 0) 1 8 Tryz.underlying22 hi0 hz0 hz1 hz2 rfl (by decide) _ _ _ rfl (hownc.alloc _) ⟨wc.heap.size, 0, none⟩ 1 1 [.int .i64 n] rfl rfl (one_new _ _ _) (by simp [Value.oneCell']) (by decide) (by unfold maxLen; omega) (by omega) (by simp; omega) _ rfl ?_; intro g cap2 w5 hown2 hgr hat hg2)
        have hbl5 : Below w2.heap.size w2 w5 := (bl2.alloc hszc _).grown hgr (by simp; omega) (fun j hj => (hownc.lt j hj).1)
        go_wp2_with fail
        go_roundw
        case rel => exact ⟨i + 1, l ++ [n], some ⟨g, 0, none⟩, cap2, by go_num, by simp, by omega, by simp [HLI.out], by simpa using hown2, hbl5, HR.out⟩
        case measure => simp [intOf]; omega
    · have hil : i = ws.length := by omega
      have hr : res = .ok l := by
        rw [← HEV.out, List.drop_of_length_le (by rw [HXL.out]; omega), evFrom_end]
      have HR := Lib.hid hr
      obtain ⟨y0, y1, y2, y3, y4, y5⟩ := rn_cells B1r
      have l5 := l2.trans (hbl.mono l2.size)
      have hso := setRow_stays wr (w.heap.size + 1) (rnC (.slice a1 a2 a3) (.slice n1 ns.length n3) (.slice v1 vs.length v3) st er at0)
      have hrow : IRow (wr.setRow (w.heap.size + 1) (rnC (.slice a1 a2 a3) (.slice n1 ns.length n3) (.slice v1 vs.length v3) st er at0)) w.heap.size (.slice t1 l.length t3) l := own_stays (row_base hown (by omega)) B2r (by decide) hso
      have HROW := Lib.hid hrow
      clear hr hown hrow
      go_wp2_with (refine wpList_unit (o := ⟨none, Op.store 130 (.tmp 6) _, _, _, _, _⟩) rfl rfl (Instr.storeAt 130 _ _) rfl (blk_store (c' := rnC (.slice a1 a2 a3) (.slice n1 ns.length n3) (.slice v1 vs.length v3) st er at0) B2r size130 rfl rfl) ?_)
      refine ⟨rfl, _, res133 (setRow_heap wr (w.heap.size + 1) _ (rnC (.slice a1 a2 a3) (.slice n1 ns.length n3) (.slice v1 vs.length v3) st er at0) 130 B2r) rfl rfl rfl, ?_⟩
      unfold RetRE
      rw [HR.out]
      exact ⟨l5.trans (hso.below l5.size (fun j hj e => by have e' : j = w.heap.size + 1 := e; omega)), _, rfl, HROW.out⟩
end Go.Proofs.YtddnmocoaahlfaaGreatDoor
