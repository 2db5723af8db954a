/-
  Eval: the value of an expression for names and their values, or its error. Conditions: the bounds that it states.
  What the arguments of the laws are in memory: rows of ints, rows of strings, acts, events. No condition.
-/
import Derived.Test.YtddnmocoaahlfaaGreatDoorLine
import Derived.Test.YtddnmocoaahlfaaGreatDoorMach
import Derived.Test.YtddnmocoaahlfaaGreatDoorGuard
import Derived.StillTailTactics
import Derived.Laws.EntriesVeiled
import Derived.Deep.WholeRow
import Derived.ProofKit
import Derived.Lib.SmallJoins
set_option linter.unusedVariables false
set_option linter.unusedSimpArgs false

namespace Go.Proofs.YtddnmocoaahlfaaGreatDoor
open Go.RowKit Go.Maps Go.WideMaps
theorem SRow.form {w : World} {v : Value} {ss : List ByteArray} (h : SRow w v ss) : ∃ a c, v = .slice a ss.length c := by
  rcases h with ⟨rfl, a, c, rfl⟩ | ⟨_, L, o, c, rfl, _⟩
  · exact ⟨a, c, rfl⟩
  · exact ⟨_, c, rfl⟩
/-- A row of strings, whatever block it lies in. -/
def SRw (w : World) (v : Value) (ss : List ByteArray) : Prop :=
  (ss = [] ∧ ∃ a c, v = .slice a 0 c) ∨ (ss ≠ [] ∧ ∃ L o c, v = .slice (some ⟨L, o, none⟩) ss.length c ∧ ss.length ≤ c ∧ ∀ j (h : j < ss.length), w.cell? ⟨L, o + j, none⟩ = some (.string ss[j]))
theorem SRow.rw {w : World} {v : Value} {ss : List ByteArray} (h : SRow w v ss) : SRw w v ss := by
  rcases h with h | ⟨h0, L, o, c, h1, h2, _, h3⟩
  · exact .inl h
  · exact .inr ⟨h0, L, o, c, h1, h2, h3⟩
theorem SRw.below {w w' : World} {v : Value} {ss : List ByteArray} (h : SRw w v ss) (b : Below w.heap.size w w') : SRw w' v ss := by
  rcases h with h | ⟨h0, L, o, c, h1, h2, h3⟩
  · exact .inl h
  · exact .inr ⟨h0, L, o, c, h1, h2, fun j hj => cell_below (h3 j hj) b⟩
theorem SRw.form {w : World} {v : Value} {ss : List ByteArray} (h : SRw w v ss) : ∃ a c, v = .slice a ss.length c := by
  rcases h with ⟨rfl, a, c, rfl⟩ | ⟨_, L, o, c, rfl, _⟩
  · exact ⟨a, c, rfl⟩
  · exact ⟨_, c, rfl⟩
end Go.Proofs.YtddnmocoaahlfaaGreatDoor
namespace Go.Proofs.YtddnmocoaahlfaaGreatDoor
open Go.ChangeShapes Go.WideShapes Go.ChangeAt Go.RowKit
theorem wf_i64' {n : Int} (h : (Lit.int .i64 n).wf = true) : I64 n := by
  simp [Lit.wf, IntKind.min, IntKind.max, IntKind.bits, IntKind.signed] at h
  exact ⟨by omega, by omega⟩
theorem plain_addr {w : World} {a : Addr} {u : Value} (h : w.cell? (a.add 0) = some u) : ∃ L o, a = ⟨L, o, none⟩ := by
  obtain ⟨L, o, sp⟩ := a
  cases sp with
  | none => exact ⟨L, o, rfl⟩
  | some z =>
    exfalso
    have e : (⟨L, o, some z⟩ : Addr).add 0 = ⟨L, o, some z⟩ := by unfold Addr.add; rfl
    rw [e] at h
    unfold World.cell? at h
    cases hh : w.heap[L]? with
    | none => simp [hh] at h
    | some ob => cases ob <;> simp [hh] at h
variable {H : Type} {enc : TypeId × Value → H}
theorem nrow_of_ints {W : World} {fuel : Nat} {v : Value} {x : DataW H × List MemPlace} (h : DataW.trod enc Tryz.prog W 0 (fun _ => true) true fuel 22 [v] = some x) : ∃ l, NRow W v l ∧ (∀ n ∈ l, I64 n) ∧ l.length ≤ maxLen := by
  rcases open_ints Tryz.underlying22 Tryz.underlying3 (by kernel_rfl) h with ⟨hcs, _⟩ | ⟨a, len, cap, zs, hcs, _, hl, hm, hz, _, hcell, hwz⟩
  · injection hcs with hcs _
    subst hcs
    exact ⟨[], .inl ⟨rfl, _, _, rfl⟩, (fun n hn => by cases hn), Nat.zero_le _⟩
  · injection hcs with hcs _
    subst hcs
    have hz' : zs.length = cap := by simpa using hz
    refine ⟨zs.take len, ?_, fun n hn => wf_i64' (hwz n (List.mem_of_mem_take hn)), by rw [List.length_take]; omega⟩
    have hlen : (zs.take len).length = len := by rw [List.length_take]; omega
    by_cases h0 : len = 0
    · subst h0; exact .inl ⟨by simp, _, _, rfl⟩
    · obtain ⟨L, o, rfl⟩ := plain_addr (hcell 0 (by omega))
      refine .inr ⟨fun e => h0 (by rw [← hlen, e]; rfl), L, o, cap, by rw [hlen], by omega, fun j hj => ?_⟩
      have := hcell j (by omega)
      rw [Addr.add_lit] at this
      rw [this, List.getElem_take]
      simp [show j < zs.length by omega]
theorem srw_of_strings {W : World} {fuel : Nat} {v : Value} {x : DataW H × List MemPlace} (h : DataW.trod enc Tryz.prog W 0 (fun _ => true) true fuel 27 [v] = some x) : ∃ ss, SRw W v ss ∧ (∀ s ∈ ss, s.size ≤ maxLen) ∧ ss.length ≤ maxLen := by
  rcases open_strings Tryz.underlying27 Tryz.underlying9 (by kernel_rfl) h with ⟨hcs, _⟩ | ⟨a, len, cap, zs, hcs, _, hl, hm, hz, _, hcell, hwz⟩
  · injection hcs with hcs _
    subst hcs
    exact ⟨[], .inl ⟨rfl, _, _, rfl⟩, (fun n hn => by cases hn), Nat.zero_le _⟩
  · injection hcs with hcs _
    subst hcs
    have hz' : zs.length = cap := by simpa using hz
    refine ⟨zs.take len, ?_, fun n hn => hwz n (List.mem_of_mem_take hn), by rw [List.length_take]; omega⟩
    have hlen : (zs.take len).length = len := by rw [List.length_take]; omega
    by_cases h0 : len = 0
    · subst h0; exact .inl ⟨by simp, _, _, rfl⟩
    · obtain ⟨L, o, rfl⟩ := plain_addr (hcell 0 (by omega))
      refine .inr ⟨fun e => h0 (by rw [← hlen, e]; rfl), L, o, cap, by rw [hlen], by omega, fun j hj => ?_⟩
      have := hcell j (by omega)
      rw [Addr.add_lit] at this
      rw [this, List.getElem_take]
      simp [show j < zs.length by omega]
set_option maxRecDepth 100000 in
theorem act_arg {W : World} {r : Reach} {bs : Nat} {v : Value} {dd : DataW H} {p : List MemPlace} (hv : Value.okWide Tryz.prog W r bs 24 v) (h : DataW.Trod enc Tryz.prog W 0 (fun _ => true) true 24 v dd p) :
    ∃ k a b c d e kv kp, v = .agg #[.int .i64 k, .int .i64 a, .int .i64 b, .int .i64 c, .int .i64 d, .int .i64 e, kv] ∧ (∀ n ∈ [a, b, c, d, e] ++ kp, I64 n) ∧ NRow W kv kp ∧ kp.length ≤ maxLen ∧ I64 k := by
  obtain ⟨cs, rfl, hcs⟩ := okWide_struct Tryz.underlying24 hv
  obtain ⟨fuel, hf⟩ := h
  have hn : cs.size = 7 := hcs.trans (by kernel_rfl)
  obtain ⟨xs, m, _, _, _, hxl, hfl⟩ := DataW.trod_struct Tryz.underlying24 hf
  obtain ⟨c0, c1, c2, c3, c4, c5, c6, rfl⟩ : ∃ c0 c1 c2 c3 c4 c5 c6, cs = #[c0, c1, c2, c3, c4, c5, c6] := by
    obtain ⟨l⟩ := cs
    match l, hn with
    | [c0, c1, c2, c3, c4, c5, c6], _ => exact ⟨c0, c1, c2, c3, c4, c5, c6, rfl⟩
  have s3 : Tryz.prog.cellsOf 3 = 1 := by kernel_rfl
  have s22 : Tryz.prog.cellsOf 22 = 1 := by kernel_rfl
  have s9 : Tryz.prog.cellsOf 9 = 1 := by kernel_rfl
  have hx : ∀ i, i < 7 → ∃ y, xs[i]? = some y := fun i hi => ⟨xs[i]'(by rw [hxl]; exact hi), List.getElem?_eq_getElem _⟩
  obtain ⟨y0, e0⟩ := hx 0 (by decide)
  have q0 : DataW.trod enc Tryz.prog W 0 (fun _ => true) true m 3 (List.take (Tryz.prog.cellsOf 3) (List.drop 0 [c0, c1, c2, c3, c4, c5, c6])) = xs[0]? := hfl 0 _ rfl
  rw [s3, e0] at q0
  replace q0 : DataW.trod enc Tryz.prog W 0 (fun _ => true) true m 3 [c0] = some y0 := q0
  obtain ⟨y1, e1⟩ := hx 1 (by decide)
  have q1 : DataW.trod enc Tryz.prog W 0 (fun _ => true) true m 3 (List.take (Tryz.prog.cellsOf 3) (List.drop 1 [c0, c1, c2, c3, c4, c5, c6])) = xs[1]? := hfl 1 _ rfl
  rw [s3, e1] at q1
  replace q1 : DataW.trod enc Tryz.prog W 0 (fun _ => true) true m 3 [c1] = some y1 := q1
  obtain ⟨y2, e2⟩ := hx 2 (by decide)
  have q2 : DataW.trod enc Tryz.prog W 0 (fun _ => true) true m 3 (List.take (Tryz.prog.cellsOf 3) (List.drop 2 [c0, c1, c2, c3, c4, c5, c6])) = xs[2]? := hfl 2 _ rfl
  rw [s3, e2] at q2
  replace q2 : DataW.trod enc Tryz.prog W 0 (fun _ => true) true m 3 [c2] = some y2 := q2
  obtain ⟨y3, e3⟩ := hx 3 (by decide)
  have q3 : DataW.trod enc Tryz.prog W 0 (fun _ => true) true m 3 (List.take (Tryz.prog.cellsOf 3) (List.drop 3 [c0, c1, c2, c3, c4, c5, c6])) = xs[3]? := hfl 3 _ rfl
  rw [s3, e3] at q3
  replace q3 : DataW.trod enc Tryz.prog W 0 (fun _ => true) true m 3 [c3] = some y3 := q3
  obtain ⟨y4, e4⟩ := hx 4 (by decide)
  have q4 : DataW.trod enc Tryz.prog W 0 (fun _ => true) true m 3 (List.take (Tryz.prog.cellsOf 3) (List.drop 4 [c0, c1, c2, c3, c4, c5, c6])) = xs[4]? := hfl 4 _ rfl
  rw [s3, e4] at q4
  replace q4 : DataW.trod enc Tryz.prog W 0 (fun _ => true) true m 3 [c4] = some y4 := q4
  obtain ⟨y5, e5⟩ := hx 5 (by decide)
  have q5 : DataW.trod enc Tryz.prog W 0 (fun _ => true) true m 3 (List.take (Tryz.prog.cellsOf 3) (List.drop 5 [c0, c1, c2, c3, c4, c5, c6])) = xs[5]? := hfl 5 _ rfl
  rw [s3, e5] at q5
  replace q5 : DataW.trod enc Tryz.prog W 0 (fun _ => true) true m 3 [c5] = some y5 := q5
  obtain ⟨y6, e6⟩ := hx 6 (by decide)
  have q6 : DataW.trod enc Tryz.prog W 0 (fun _ => true) true m 22 (List.take (Tryz.prog.cellsOf 22) (List.drop 6 [c0, c1, c2, c3, c4, c5, c6])) = xs[6]? := hfl 6 _ rfl
  rw [s22, e6] at q6
  replace q6 : DataW.trod enc Tryz.prog W 0 (fun _ => true) true m 22 [c6] = some y6 := q6
  obtain ⟨k, z0, _, w0⟩ := DataW.trod_int Tryz.underlying3 q0
  injection z0 with z0 _
  subst z0
  obtain ⟨a, z1, _, w1⟩ := DataW.trod_int Tryz.underlying3 q1
  injection z1 with z1 _
  subst z1
  obtain ⟨b, z2, _, w2⟩ := DataW.trod_int Tryz.underlying3 q2
  injection z2 with z2 _
  subst z2
  obtain ⟨c, z3, _, w3⟩ := DataW.trod_int Tryz.underlying3 q3
  injection z3 with z3 _
  subst z3
  obtain ⟨d, z4, _, w4⟩ := DataW.trod_int Tryz.underlying3 q4
  injection z4 with z4 _
  subst z4
  obtain ⟨e, z5, _, w5⟩ := DataW.trod_int Tryz.underlying3 q5
  injection z5 with z5 _
  subst z5
  obtain ⟨kp, hk1, hk2, hk3⟩ := nrow_of_ints q6
  refine ⟨k, a, b, c, d, e, c6, kp, rfl, fun x hx => ?_, hk1, hk3, wf_i64' w0⟩
  rcases List.mem_append.1 hx with hx | hx
  · simp only [List.mem_cons, List.not_mem_nil, or_false] at hx
    rcases hx with rfl | rfl | rfl | rfl | rfl
    · exact wf_i64' w1
    · exact wf_i64' w2
    · exact wf_i64' w3
    · exact wf_i64' w4
    · exact wf_i64' w5
  · exact hk2 x hx
set_option maxRecDepth 100000 in
theorem ev_arg {W : World} {r : Reach} {bs : Nat} {v : Value} {dd : DataW H} {p : List MemPlace} (hv : Value.okWide Tryz.prog W r bs 26 v) (h : DataW.Trod enc Tryz.prog W 0 (fun _ => true) true 26 v dd p) :
    ∃ k a b c s, v = .agg #[.int .i64 k, .int .i64 a, .int .i64 b, .int .i64 c, .string s] ∧ I64 k ∧ I64 a ∧ I64 b ∧ I64 c ∧ s.size ≤ maxLen := by
  obtain ⟨cs, rfl, hcs⟩ := okWide_struct Tryz.underlying26 hv
  obtain ⟨fuel, hf⟩ := h
  have hn : cs.size = 5 := hcs.trans (by kernel_rfl)
  obtain ⟨xs, m, _, _, _, hxl, hfl⟩ := DataW.trod_struct Tryz.underlying26 hf
  obtain ⟨c0, c1, c2, c3, c4, rfl⟩ : ∃ c0 c1 c2 c3 c4, cs = #[c0, c1, c2, c3, c4] := by
    obtain ⟨l⟩ := cs
    match l, hn with
    | [c0, c1, c2, c3, c4], _ => exact ⟨c0, c1, c2, c3, c4, rfl⟩
  have s3 : Tryz.prog.cellsOf 3 = 1 := by kernel_rfl
  have s22 : Tryz.prog.cellsOf 22 = 1 := by kernel_rfl
  have s9 : Tryz.prog.cellsOf 9 = 1 := by kernel_rfl
  have hx : ∀ i, i < 5 → ∃ y, xs[i]? = some y := fun i hi => ⟨xs[i]'(by rw [hxl]; exact hi), List.getElem?_eq_getElem _⟩
  obtain ⟨y0, e0⟩ := hx 0 (by decide)
  have q0 : DataW.trod enc Tryz.prog W 0 (fun _ => true) true m 3 (List.take (Tryz.prog.cellsOf 3) (List.drop 0 [c0, c1, c2, c3, c4])) = xs[0]? := hfl 0 _ rfl
  rw [s3, e0] at q0
  replace q0 : DataW.trod enc Tryz.prog W 0 (fun _ => true) true m 3 [c0] = some y0 := q0
  obtain ⟨y1, e1⟩ := hx 1 (by decide)
  have q1 : DataW.trod enc Tryz.prog W 0 (fun _ => true) true m 3 (List.take (Tryz.prog.cellsOf 3) (List.drop 1 [c0, c1, c2, c3, c4])) = xs[1]? := hfl 1 _ rfl
  rw [s3, e1] at q1
  replace q1 : DataW.trod enc Tryz.prog W 0 (fun _ => true) true m 3 [c1] = some y1 := q1
  obtain ⟨y2, e2⟩ := hx 2 (by decide)
  have q2 : DataW.trod enc Tryz.prog W 0 (fun _ => true) true m 3 (List.take (Tryz.prog.cellsOf 3) (List.drop 2 [c0, c1, c2, c3, c4])) = xs[2]? := hfl 2 _ rfl
  rw [s3, e2] at q2
  replace q2 : DataW.trod enc Tryz.prog W 0 (fun _ => true) true m 3 [c2] = some y2 := q2
  obtain ⟨y3, e3⟩ := hx 3 (by decide)
  have q3 : DataW.trod enc Tryz.prog W 0 (fun _ => true) true m 3 (List.take (Tryz.prog.cellsOf 3) (List.drop 3 [c0, c1, c2, c3, c4])) = xs[3]? := hfl 3 _ rfl
  rw [s3, e3] at q3
  replace q3 : DataW.trod enc Tryz.prog W 0 (fun _ => true) true m 3 [c3] = some y3 := q3
  obtain ⟨y4, e4⟩ := hx 4 (by decide)
  have q4 : DataW.trod enc Tryz.prog W 0 (fun _ => true) true m 9 (List.take (Tryz.prog.cellsOf 9) (List.drop 4 [c0, c1, c2, c3, c4])) = xs[4]? := hfl 4 _ rfl
  rw [s9, e4] at q4
  replace q4 : DataW.trod enc Tryz.prog W 0 (fun _ => true) true m 9 [c4] = some y4 := q4
  obtain ⟨k, z0, _, w0⟩ := DataW.trod_int Tryz.underlying3 q0
  injection z0 with z0 _
  subst z0
  obtain ⟨a, z1, _, w1⟩ := DataW.trod_int Tryz.underlying3 q1
  injection z1 with z1 _
  subst z1
  obtain ⟨b, z2, _, w2⟩ := DataW.trod_int Tryz.underlying3 q2
  injection z2 with z2 _
  subst z2
  obtain ⟨c, z3, _, w3⟩ := DataW.trod_int Tryz.underlying3 q3
  injection z3 with z3 _
  subst z3
  obtain ⟨s, z4, _, w4⟩ := DataW.trod_string Tryz.underlying9 q4
  injection z4 with z4 _
  subst z4
  exact ⟨k, a, b, c, s, rfl, wf_i64' w0, wf_i64' w1, wf_i64' w2, wf_i64' w3, w4⟩
end Go.Proofs.YtddnmocoaahlfaaGreatDoor
