/-
  The readers of a plant's lines: those of one number. Conditions: the package-level variables hold what the program lays; short words.
  The reader of a plant's banned words. Condition: the plant bans none yet; short words.
-/
import Derived.Test.YtddnmocoaahlfaaGreatDoorOpnP
import Derived.Test.YtddnmocoaahlfaaGreatDoorZr
import Derived.BigQuiet
import Derived.Deep.RegionHeld3
import Derived.Test.YtddnmocoaahlfaaGreatDoorCutw
set_option linter.unusedVariables false
set_option linter.unusedSimpArgs false

namespace Go.Proofs.YtddnmocoaahlfaaGreatDoor
open Go.RowKit Go.Shelf
/-- A plant in its block. -/
structure PA (w : World) (R : Nat) (q : PV) (bv : Value) (ss : List ByteArray) : Prop where
  blk : Blk w R (q.cells bv) 35
  row : SRw w bv ss
  ne : ∀ L o m c, bv = .slice (some ⟨L, o, none⟩) m c → ss ≠ [] → R < L
  nl : ss = [] → bv = .slice none 0 0
theorem srw_stays {M : Nat → Prop} {w w' : World} {v : Value} {ss : List ByteArray} (h : SRw w v ss) (b : Stays M w w') (hM : ∀ L o m c, v = .slice (some ⟨L, o, none⟩) m c → ss ≠ [] → ¬ M L) : SRw w' v ss := by
  rcases h with h | ⟨h0, L, o, c, h1, h2, h3⟩
  · exact .inl h
  · refine .inr ⟨h0, L, o, c, h1, h2, fun j hj => ?_⟩
    have hc := h3 j hj
    exact (World.cell?_of_block (a := ⟨L, o + j, none⟩) (b.block L (World.block_lt_of_cell? w _ hc) (hM L o _ c h1 h0))).trans hc
/-- What reading a line ends in. -/
def RetRl (w : World) (R : Nat) (r : Option Pl) (e : Ending) (w' : World) : Prop := Stays (fun k => k = R) w w' ∧ match r with
  | none => e = .returned (.bool false)
  | some p => e = .returned (.bool true) ∧ ∃ q bv ss, PA w' R q bv ss ∧ q.pl (ss.map txt) = p
theorem PA.below {w w' : World} {R : Nat} {q : PV} {bv : Value} {ss : List ByteArray} (h : PA w R q bv ss) (b : Below w.heap.size w w') : PA w' R q bv ss := ⟨h.blk.below b, h.row.below b, h.ne, h.nl⟩
theorem one_none {l : List Int} {ps : List (List UInt8)} (h : undecAllL ps = some l) (hl : l.length ≠ 1) : oneL ps = none := by
  unfold oneL; rw [h]
  match l, hl with
  | [], _ => rfl
  | [_], h => exact absurd rfl h
  | _ :: _ :: _, _ => rfl
set_option maxRecDepth 100000 in
set_option maxHeartbeats 4000000 in
theorem single_any {w : World} (he : Env w) {R B ci : Nat} {acc : FuncId} {q : PV} {bv pv : Value} {ss ps : List ByteArray} {old : Int} {upd : PV → Int → PV} (hp : PA w R q bv ss) (hr : SRw w pv ps) (hl : ps.length ≤ 65536) (hsz : ∀ x ∈ ps, x.size ≤ 65536)
    (hB : w.cell? ⟨B, 0, none⟩ = some (.func (.func acc) #[] #[])) (hent : ∀ args w, (callFunc acc args).run Tryz.prog w = .ok (.enter acc args) w) (hacc : ∀ W, Calls Tryz.prog acc #[.pointer (some ⟨R, 0, none⟩)] W (fun e w' => e = .returned (.pointer (some ⟨R, ci, none⟩)) ∧ w' = W))
    (hc : (q.cells bv)[ci]? = some (.int .i64 old)) (hu : ∀ m, (q.cells bv).setIfInBounds ci (.int .i64 m) = (upd q m).cells bv) {f : Pl → Int → Pl} (hf : ∀ m, (upd q m).pl (ss.map txt) = f (q.pl (ss.map txt)) m) :
    Calls Tryz.prog 125 #[.pointer (some ⟨R, 0, none⟩), pv, .pointer (some ⟨B, 0, none⟩)] w (RetRl w R ((oneL (ps.map txt)).map (f (q.pl (ss.map txt))))) := by
  have HU := Lib.hid (undecAll_any he hr (by omega) hsz)
  obtain ⟨res, hres⟩ : ∃ res, res = (oneL (ps.map txt)).map (f (q.pl (ss.map txt))) := ⟨_, rfl⟩
  rw [← hres]
  have HRES := Lib.hid hres
  clear hres
  go_enter Tryz.func125, Tryz.ntmps125
  go_wp2_with fail
  refine HU.out.mono ?_
  rintro e w1 ⟨b1, h1⟩
  clear HU
  cases hun : undecAllL (ps.map txt) with
  | none =>
    rw [hun] at h1
    have hrn : res = none := by rw [HRES.out]; unfold oneL; rw [hun]; rfl
    subst h1
    subst hrn
    clear hun HRES hc hu hf hacc hent
    go_wp2_with fail
    go_ret
    exact ⟨.of b1, rfl⟩
  | some l =>
    rw [hun] at h1
    obtain ⟨v', rfl, hrow⟩ := h1
    by_cases hl1 : l.length = 1
    rotate_left
    · have hrn : res = none := by rw [HRES.out, one_none hun hl1]; rfl
      subst hrn
      obtain ⟨a', n', c', rfl, hlen⟩ : ∃ a n c, v' = .slice a n c ∧ n = l.length := by
        obtain ⟨a, c, h⟩ := (nrow_of hrow).form
        exact ⟨a, _, c, h, rfl⟩
      have d1 : ((n' : Int) != 1) = true := by simp; omega
      clear hun HRES hc hu hf hacc hent hlen hl1
      go_wp2_with fail
      go_ret
      exact ⟨.of b1, rfl⟩
    · obtain ⟨m, rfl⟩ : ∃ m, l = [m] := by
        match l, hl1 with
        | [m], _ => exact ⟨m, rfl⟩
      have hrs : res = some (f (q.pl (ss.map txt)) m) := by rw [HRES.out]; unfold oneL; rw [hun]; rfl
      have hnr := nrow_of hrow
      obtain ⟨pa, pc, rfl⟩ := hnr.form
      obtain ⟨L, o, rfl, hcm⟩ := nrow_get hnr (i := 0) (by simp)
      rw [Nat.add_zero] at hcm
      have hcm' : w1.cell? ⟨L, o, none⟩ = some (.int .i64 m) := hcm
      have hB1 := cell_below hB b1
      have hp1 := hp.below b1
      have hcR : w1.cell? ⟨R, ci, none⟩ = some (.int .i64 old) := (hp1.blk.cell ci).trans hc
      have hfR := hp1.blk.frozen ci
      have HA := Lib.hid hacc
      have hst : Stays (fun k => k = R) w1 (w1.setCell ⟨R, ci, none⟩ (.int .i64 m)).drew := (Stays.cell (.refl _ w1) ci (.int .i64 m)).drewN 1
      have hfin : RetRl w R (some (f (q.pl (ss.map txt)) m)) (.returned (.bool true)) (w1.setCell ⟨R, ci, none⟩ (.int .i64 m)).drew := by
        refine ⟨(Stays.of b1).trans hst, rfl, upd q m, bv, ss, ⟨?_, srw_stays hp1.row hst (fun L o m' c h h0 e => Nat.ne_of_gt (hp1.ne L o m' c h h0) e), hp1.ne, hp1.nl⟩, hf m⟩
        have := (hp1.blk.set ci (.int .i64 m)).drewN 1
        rw [hu m] at this
        exact this
      have HFIN := Lib.hid hfin
      subst hrs
      clear hun HRES hrow hnr hl1 hcm hacc hu hf hst hfin hp hp1 hr hsz
      rw [List.length_singleton]
      go_upto_region 4 with fail
      go_region_with (first | ((with_reducible refine (HA.out _).mono ?_); rintro ex wz ⟨rfl, rfl⟩))
      all_goals (go_wp2_with fail; go_ret; exact HFIN.out)
end Go.Proofs.YtddnmocoaahlfaaGreatDoor
namespace Go.Proofs.YtddnmocoaahlfaaGreatDoor
open Go.RowKit Go.Shelf
theorem Blk.upto {w w' : World} {b R : Nat} {cs : Array Value} {T : TypeId} (h : Blk w R cs T) (hb : Below b w w') (hl : R < b) : Blk w' R cs T := by
  unfold Blk at *
  rw [hb.block R hl]; exact h
theorem Stays.upto {M : Nat → Prop} {a w w' : World} (h : Stays M a w) (hb : Below a.heap.size w w') : Stays M a w' :=
  ⟨hb.os.trans h.os, hb.tape.trans h.tape, hb.output.trans h.output, Nat.le_trans h.size hb.size, fun k hk hn => (hb.block k hk).trans (h.block k hk hn)⟩
theorem take_all {p : ByteArray → Bool} {l : List ByteArray} {i : Nat} (h : i < l.length) (hp : p l[i] = true) (ha : (l.take i).all p = true) : (l.take (i + 1)).all p = true := by
  rw [List.take_succ_eq_append_getElem h, List.all_append, ha, List.all_cons, hp]; rfl
set_option maxRecDepth 100000 in
set_option maxHeartbeats 8000000 in
theorem banned_any {w : World} {R : Nat} {q : PV} {pv : Value} {ps : List ByteArray} (hp : PA w R q (.slice none 0 0) []) (hr : SRw w pv ps) (hl : ps.length ≤ 65536) (hsz : ∀ x ∈ ps, x.size ≤ 65536) (hne : ∀ L o m c, pv = .slice (some ⟨L, o, none⟩) m c → ps ≠ [] → L ≠ R) :
    Calls Tryz.prog 87 #[.pointer (some ⟨R, 0, none⟩), pv] w (RetRl w R (readLine 2 (q.pl []) (ps.map txt))) := by
  obtain ⟨i0, hi0, hz0, hz1, hz2⟩ := info_parts info9
  have hlt0 := hp.blk.lt
  obtain ⟨res, hres⟩ : ∃ res, res = readLine 2 (q.pl []) (ps.map txt) := ⟨_, rfl⟩
  rw [← hres]
  have HRES := Lib.hid hres
  have HB := Lib.hid hp.blk
  have HSZ := Lib.hid hsz
  have HR := Lib.hid hr
  have HNE := Lib.hid hne
  obtain ⟨a, c, rfl⟩ := hr.form
  have hcap : ps = [] ∨ ps.length ≤ c := by
    rcases hr with ⟨rfl, _⟩ | ⟨_, L, o, c', h1, h2, h3⟩
    · exact .inl rfl
    · injection h1 with _ _ h1; subst h1; exact .inr h2
  clear hp hr hsz hne hres
  go_enter Tryz.func87, Tryz.ntmps87
  go_wp2_with fail
  go_loopw [9] (fun t wr => ∃ (k : Nat) (sv : Value), t = .int .i64 k ∧ k ≤ ps.length ∧ (k = 0 → sv = .slice none 0 0) ∧ wr.ownsRow w.heap.size 9 1 sv (ps.take k).length ((ps.take k).map Value.string) ∧ Blk wr R (q.cells sv) 35 ∧ (ps.take k).all (fun x => isTokL (txt x)) = true ∧ Stays (fun j => j = R) w wr) (fun t wr => ps.length - (intOf t).toNat)
  case atStart => exact ⟨0, .slice none 0 0, rfl, Nat.zero_le _, (fun _ => rfl), World.ownsRow_nil _ _ _ _, HB.out, rfl, .refl _ _⟩
  case round =>
    obtain ⟨k, sv, rfl, hk, hk0, hown, hbk, hall, hst⟩ := hrel
    have hszr := hst.size
    have HK0 := Lib.hid hk0
    have HALL := Lib.hid hall
    clear hall hk0
    by_cases hlt : k < ps.length
    · obtain ⟨L, o, rfl, ck0⟩ := srw_get HR.out hlt
      have hLR : L ≠ R := HNE.out L o _ _ rfl (by intro e; rw [e] at hlt; simp at hlt)
      have ck : wr.cell? ⟨L, o + k, none⟩ = some (.string ps[k]) := (World.cell?_of_block (a := ⟨L, o + k, none⟩) (hst.block L (World.block_lt_of_cell? w _ ck0) hLR)).trans ck0
      have hcc : ps.length ≤ c := hcap.resolve_left (fun e => by rw [e] at hlt; simp at hlt)
      have hxs := HSZ.out ps[k] (List.getElem_mem hlt)
      have hx : ∃ x, ps[k] = x := ⟨_, rfl⟩
      obtain ⟨x, hx⟩ := hx
      have HX := Lib.hid hx
      rw [hx] at ck hxs
      clear hx ck0
      have HT := Lib.hid (isTok_any x wr (by omega))
      have c2 : wr.cell? ⟨R, 2, none⟩ = some sv := (hbk.cell 2).trans rfl
      have HBK := Lib.hid hbk
      cases ht : isTokL (txt x) with
      | false =>
        rw [ht] at HT
        have hrn : res = none := by
          rw [HRES.out]
          unfold readLine
          simp only [show ¬ (2 = 0) by decide, show ¬ (2 = 1) by decide, if_false, if_true]
          rw [if_neg]
          intro h
          rw [List.all_eq_true] at h
          have := h (txt x) (List.mem_map.2 ⟨x, by rw [← HX.out]; exact List.getElem_mem hlt, rfl⟩)
          rw [ht] at this
          cases this
        subst hrn
        have HST := Lib.hid hst
        clear hst hbk ht
        go_wp2_with (go_at_call 48; (with_reducible refine HT.out.mono ?_); rintro ex wz ⟨rfl, hz⟩; rw [hz]; clear hz)
        go_ret
        exact ⟨HST.out, rfl⟩
      | true =>
        rw [ht] at HT
        have hta : (ps.take (k + 1)).all (fun x => isTokL (txt x)) = true := take_all hlt (by rw [HX.out]; exact ht) HALL.out
        have htk : ps.take (k + 1) = ps.take k ++ [x] := by rw [List.take_succ_eq_append_getElem hlt, HX.out]
        have hln : (ps.take k).length ≤ 65536 := by rw [List.length_take]; omega
        obtain ⟨n, ts, hn, hts⟩ : ∃ (n : Nat) (ts : List ByteArray), n = (ps.take k).length ∧ ts = ps.take k := ⟨_, _, rfl, rfl⟩
        have hnk : n = k := by rw [hn, List.length_take]; omega
        rw [← hn] at hln
        rw [← hn, ← hts] at hown
        have HN := Lib.hid hn
        have HNK := Lib.hid hnk
        have HTS := Lib.hid hts
        have HTA := Lib.hid hta
        have HTK := Lib.hid htk
        have HST := Lib.hid hst
        clear hst hbk ht hta htk hn hts hnk
        go_wp2_with (first | (go_at_call 48; (with_reducible refine HT.out.mono ?_); rintro ex wz ⟨rfl, hz⟩; rw [hz]; clear hz) | (at_builtin; refine wpList_append_lies _ rfl _ _ 27 rfl w.heap.size 9 i0 (.string ⟨#[]⟩) 1 16 Tryz.underlying27 hi0 hz0 hz1 hz2 rfl (by decide) _ _ _ rfl (hown.alloc _) ⟨wr.heap.size, 0, none⟩ 1 1 [.string x] rfl rfl (one_new _ _ _) (by simp [Value.oneCell']) (by decide) (by unfold maxLen; omega) (by omega) (by simp; omega) _ rfl ?_; intro g cap2 w2 hown2 hgr hat hg2; have hbl2 : Below w.heap.size wr w2 := ((Below.refl _ wr).alloc hszr _).grown hgr (by simp; omega) (fun j hj => (hown.lt j hj).1); have hb2 := HBK.out.upto hbl2 hlt0; have c22 : w2.cell? ⟨R, 2, none⟩ = some sv := (hb2.cell 2).trans rfl; have f22 := hb2.frozen 2; have HB2 := Lib.hid hb2; clear hb2))
        go_roundw
        case rel =>
          refine ⟨k + 1, _, by go_num, by omega, (fun h => by omega), ?_, HB2.out.set 2 _, HTA.out, (HST.out.upto hbl2).cell 2 _⟩
          rw [HTK.out, List.map_append, List.length_append, ← HTS.out, HTS.out, ← HN.out, ← HTS.out]
          have hne : ∀ j, (Value.slice (some ⟨g, 0, none⟩) (n + 1) cap2).ownBlock = some j → j ≠ R := fun j hj => by
            have := (hown2.lt j hj).1
            omega
          exact row_keep hown2 (fun j hj => Below.heap_setCell (w := w2) (k := j) _ _ (hne j hj))
        case measure => simp [intOf]; omega
    · have hkk : k = ps.length := by omega
      subst hkk
      rw [List.take_length] at hown HALL
      have hrn : res = some (q.pl (ps.map txt)) := by
        rw [HRES.out]
        unfold readLine
        simp only [show ¬ (2 = 0) by decide, show ¬ (2 = 1) by decide, if_false, if_true]
        rw [if_pos]
        · rfl
        · rw [List.all_map]; exact HALL.out
      have hPA : PA wr R q sv ps := by
        refine ⟨hbk, (srow_of hown).rw, ?_, fun h => HK0.out (by rw [h]; rfl)⟩
        rintro L o m c' rfl h0
        have := (hown.lt L (by simp [Value.ownBlock])).1
        omega
      have HFIN := Lib.hid (show RetRl w R (some (q.pl (ps.map txt))) (.returned (.bool true)) wr from ⟨hst, rfl, q, sv, ps, hPA, rfl⟩)
      subst hrn
      clear hst hbk hPA
      go_wp2_with fail
      go_ret
      exact HFIN.out
end Go.Proofs.YtddnmocoaahlfaaGreatDoor
