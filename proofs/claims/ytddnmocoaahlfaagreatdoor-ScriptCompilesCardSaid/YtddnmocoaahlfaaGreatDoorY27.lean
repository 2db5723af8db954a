/-
  The contracts of guard: what the function that it calls reports by a panic is returned.
  The contracts of the reader of whole expressions, and of parse. Conditions: the called function's own contract; texts of at most 65536 bytes; the variable of the range error holds an error or none.
-/
import Derived.Test.YtddnmocoaahlfaaGreatDoorY37
import Derived.Recover
import Derived.Defers
import Derived.Test.YtddnmocoaahlfaaGreatDoorBin0
import Derived.Test.YtddnmocoaahlfaaGreatDoorBin1
import Derived.Test.YtddnmocoaahlfaaGreatDoorBin2
import Derived.Test.YtddnmocoaahlfaaGreatDoorBin3
import Derived.Test.YtddnmocoaahlfaaGreatDoorBin4
set_option linter.unusedVariables false
set_option linter.unusedSimpArgs false
set_option maxRecDepth 100000
set_option maxHeartbeats 2000000
namespace Go.Proofs.YtddnmocoaahlfaaGreatDoor
open Go.RowKit
theorem cs_same' {w : World} {p : Addr} {u v : Value} (h : w.cell? p = some u) : (w.setCell p v).cell? p = some v := by
  unfold World.cell? World.setCell at *
  cases hh : w.heap[p.block]? with
  | none => rw [hh] at h; cases h
  | some o =>
    rw [hh] at h
    simp only [Array.getElem?_modify, if_true, hh, Option.map_some]
    cases o with
    | cells c T z =>
      by_cases hs : p.spot.isSome = true
      · simp [hs] at h
      · simp only [hs] at h
        have hlt := (Array.getElem?_eq_some_iff.1 h).1
        simp [hs, hlt]
    | _ => cases h
theorem hassert (v : Value) (w : World) : (Instr.typeAssert (.iface 172 v) 20 172 true).run Tryz.prog w = .ok (.tuple #[v, .bool true]) w := by kernel_rfl
set_option maxHeartbeats 1000000 in
theorem catch_trouble (p : Addr) (x k : Int) (older : List PanicEntry) (w : World) (hc : w.cell? p = some (.int .i64 x)) (hz : w.frozen? p = false) :
    CallsD Tryz.prog 102 #[.pointer (some p)] (.panicking ({ v := .iface 172 (.agg #[.int .i64 k]), recovered := false } :: older)) w fun e u' w' =>
      e = .returned (.tuple #[]) ∧ u' = .panicking ({ v := .iface 172 (.agg #[.int .i64 k]), recovered := true } :: older) ∧ Stays (fun j => j = p.block) w w' ∧ w'.cell? p = some (.int .i64 k) := by
  have hta := hassert
  have hlt := World.block_lt_of_cell? w p hc
  have hcc : (w.alloc (.cells #[.int .i64 k] 172)).cell? p = some (.int .i64 x) := cell_below hc ((Below.refl _ w).alloc (Nat.le_refl _) _)
  have hzz : (w.alloc (.cells #[.int .i64 k] 172)).frozen? p = false := (World.frozen?_of_block (heap_alloc_old w _ hlt)).trans hz
  have hst : Stays (fun j => j = p.block) w ((w.alloc (.cells #[.int .i64 k] 172)).setCell p (.int .i64 k)) := ((Stays.refl (fun j => j = p.block) w).alloc _).set (p := p) (.inl rfl) _
  have hse := cs_same' (v := .int .i64 k) hcc
  refine callsD_of_wpS Tryz.func102 rfl fun c₀ cs hu => ?_
  apply wpS_seq
  apply wpS_region
  simp [wpOpsS, go_sem, recoverD, hu, Tryz.ntmps102, Exit.thenS]
  refine wpS_of_wp ?_
  go_wp2_with fail
  cases c₀
  simp_all [bodyPostS, results, Tryz.results102, hst]
set_option maxHeartbeats 1000000 in
theorem catch_idle (p : Addr) (w : World) :
    CallsD Tryz.prog 102 #[.pointer (some p)] .returning w fun e u' w' => e = .returned (.tuple #[]) ∧ u' = .returning ∧ w' = w := by
  have hnil : ∀ w : World, (binOp BinOp.eql 20 .nilIface .nilIface).run Tryz.prog w = .ok (.bool true) w := fun _ => by kernel_rfl
  refine callsD_of_wpS Tryz.func102 rfl fun c₀ cs hu => ?_
  apply wpS_seq
  apply wpS_region
  simp [wpOpsS, go_sem, recoverD, hu, Tryz.ntmps102, Exit.thenS]
  refine wpS_of_wp ?_
  go_wp2_with fail
  cases c₀
  simp_all [bodyPostS, results, Tryz.results102]
set_option maxHeartbeats 1000000 in
theorem guard_ok {g : FuncId} {cap : Array Value} {w : World} {Q : World → Prop} (he : ∀ args w, (callFunc g args).run Tryz.prog w = .ok (.enter g args) w)
    (h : Calls Tryz.prog g cap (w.alloc (.cells #[.int .i64 0] 38)) (fun e w' => e = .returned (.tuple #[]) ∧ Q w'))
    (hQ : ∀ w', Q w' → w'.cell? ⟨w.heap.size, 0, none⟩ = some (.int .i64 0) ∧ w'.frozen? ⟨w.heap.size, 0, none⟩ = false) :
    Calls Tryz.prog 59 #[.func (.func g) #[] cap] w (fun e w' => e = .returned (.int .i64 0) ∧ ∃ w1, Q w1 ∧ w' = w1.setCell ⟨w.heap.size, 0, none⟩ (.int .i64 0)) := by
  have hmf := hmakef
  go_enter_defers Tryz.func59, Tryz.ntmps59
  go_wp2_with fail
  refine h.mono ?_
  rintro e w1 ⟨rfl, q1⟩
  obtain ⟨c1, z1⟩ := hQ w1 q1
  go_wp2_with fail
  refine leaves_cons (f := 102) (args := #[.pointer (some ⟨w.heap.size, 0, none⟩)]) (by simp) (by simp [go_sem]) ?_
  refine (catch_idle ⟨w.heap.size, 0, none⟩ _).mono ?_
  rintro e u' w'' ⟨rfl, rfl, rfl⟩
  have hse := cs_same' (v := .int .i64 0) c1
  simp [Leaves, settle, results, Tryz.results59, go_sem, hse]
  exact ⟨w1, q1, rfl⟩
set_option maxHeartbeats 1000000 in
theorem guard_err {g : FuncId} {cap : Array Value} {w : World} {k : Int} {Q : World → Prop} (he : ∀ args w, (callFunc g args).run Tryz.prog w = .ok (.enter g args) w)
    (h : Calls Tryz.prog g cap (w.alloc (.cells #[.int .i64 0] 38)) (fun e w' => e = .panicked [Tr k] ∧ Q w'))
    (hQ : ∀ w', Q w' → w'.cell? ⟨w.heap.size, 0, none⟩ = some (.int .i64 0) ∧ w'.frozen? ⟨w.heap.size, 0, none⟩ = false) :
    Calls Tryz.prog 59 #[.func (.func g) #[] cap] w (fun e w' => e = .returned (.int .i64 k) ∧ ∃ w1, Q w1 ∧ Stays (fun j => j = w.heap.size) w1 w') := by
  have hmf := hmakef
  go_enter_defers Tryz.func59, Tryz.ntmps59
  go_wp2_with fail
  refine h.mono ?_
  rintro e w1 ⟨rfl, q1⟩
  obtain ⟨c1, z1⟩ := hQ w1 q1
  refine leaves_cons (f := 102) (args := #[.pointer (some ⟨w.heap.size, 0, none⟩)]) (by simp) (by simp [go_sem]) ?_
  refine (catch_trouble ⟨w.heap.size, 0, none⟩ 0 k [] _ c1 z1).mono ?_
  rintro e u' w'' ⟨rfl, rfl, hs, hc⟩
  simp [Leaves, settle, results, Tryz.results59, go_sem, hc]
  exact ⟨w1, q1, hs⟩
end Go.Proofs.YtddnmocoaahlfaaGreatDoor
namespace Go.Proofs.YtddnmocoaahlfaaGreatDoor
open Go.RowKit
theorem level_eq {i : Nat} {ops : ByteArray} {g : FuncId} {sv : Bool} (h : LevAt i ops g sv) (f : Reads) : binaryE f (grammar.drop i) = levelE (txt ops) sv (binaryE f (grammar.drop (i + 1))) := by
  rw [h.gr]; rfl
theorem bin_all {op : Nat} {f : Reads} (hf : SignC op f) (he : Eats f) : BinC op (binaryE f grammar) 0 5 := by
  have h5 : BinC op (binaryE f (grammar.drop 5)) 12 0 := bin_last hf 12
  obtain ⟨o4, g4, s4, l4⟩ := levAt 4 (by decide)
  have h4 : BinC op (binaryE f (grammar.drop 4)) 12 1 := by rw [level_eq l4]; exact bin_step4 h5 (binaryE_eats he _) l4
  obtain ⟨o3, g3, s3, l3⟩ := levAt 3 (by decide)
  have h3 : BinC op (binaryE f (grammar.drop 3)) 9 2 := by rw [level_eq l3]; exact bin_step3 h4 (binaryE_eats he _) l3
  obtain ⟨o2, g2, s2, l2⟩ := levAt 2 (by decide)
  have h2 : BinC op (binaryE f (grammar.drop 2)) 6 3 := by rw [level_eq l2]; exact bin_step2 h3 (binaryE_eats he _) l2
  obtain ⟨o1, g1, s1, l1⟩ := levAt 1 (by decide)
  have h1 : BinC op (binaryE f (grammar.drop 1)) 3 4 := by rw [level_eq l1]; exact bin_step1 h2 (binaryE_eats he _) l1
  obtain ⟨o0, g0, s0, l0⟩ := levAt 0 (by decide)
  have h0 : BinC op (binaryE f (grammar.drop 0)) 0 5 := by rw [level_eq l0]; exact bin_step0 h1 (binaryE_eats he _) l0
  exact h0
theorem expr_any : ∀ d op, op + d = 16 → ExprC op (exprE d)
  | 0, op, h => bin_all (sign_any (prim_any (fun hl => by omega) (fun _ => rfl))) (signE_eats (primE_eats (fun f hf => by cases hf)))
  | d + 1, op, h => bin_all (sign_any (prim_any (fun hl => ⟨_, rfl, expr_any d (op + 1) (by omega)⟩) (fun hn => by omega))) (signE_eats (primE_eats (fun f hf => by cases hf; exact exprE_eats d)))
def RdW (w : World) (X : Nat) (r : Option Ex) (e : Ending) (w' : World) : Prop :=
  Stays (fun k => k = X) w w' ∧ match r with
  | none => e = .panicked [Tr 4] ∧ ∃ v, v.oneCell' = true ∧ w'.cell? ⟨X, 0, none⟩ = some v
  | some x => e = .returned (.tuple #[]) ∧ ∃ g cap, w'.cell? ⟨X, 0, none⟩ = some (.func (.func g) #[] cap) ∧ ExC (New w w') w' g cap x
theorem over {w w2 w3 : World} {X R : Nat} (hb : Below w.heap.size w w2) (hs : Stays (fun k => k = R) w2 w3) (hR : w.heap.size ≤ R) : Stays (fun k => k = X) w w3 :=
  ⟨hs.os.trans hb.os, hs.tape.trans hb.tape, hs.output.trans hb.output, Nat.le_trans hb.size hs.size, fun k hk _ => (hs.block k (Nat.lt_of_lt_of_le hk hb.size) (by omega)).trans (hb.block k hk)⟩
theorem Stays.cell' {mb : Nat} {a w : World} (h : Stays (fun k => k = mb) a w) (i : Nat) (v : Value) : Stays (fun k => k = mb) a (w.setCell ⟨mb, i, none⟩ v) := h.set (p := ⟨mb, i, none⟩) (.inl rfl) v
theorem parse1_any {w : World} {S X : Nat} {s : ByteArray} {v0 : Value} (hS : w.cell? ⟨S, 0, none⟩ = some (.string s)) (hX : w.cell? ⟨X, 0, none⟩ = some v0) (hv0 : v0.oneCell' = true) (hz : w.frozen? ⟨X, 0, none⟩ = false) (hne : S ≠ X) (h6 : X ≠ 6) (hs : s.size ≤ 65536) (he : ErrR w) :
    Calls Tryz.prog 110 #[.pointer (some ⟨S, 0, none⟩), .pointer (some ⟨X, 0, none⟩)] w (RdW w X (parseE (txt s))) := by
  have hlX := World.block_lt_of_cell? w _ hX
  have hlS := World.block_lt_of_cell? w _ hS
  obtain ⟨w1, hw1⟩ : ∃ w1, w1 = w.alloc (.cells #[.string s, .int .i64 0, .int .i64 0] 179) := ⟨_, rfl⟩
  have hp1 : Par w1 w.heap.size s 0 0 := by rw [hw1]; exact Blk.new w _ _
  have hb1 : Below w.heap.size w w1 := by rw [hw1]; exact (Below.refl _ _).alloc (Nat.le_refl _) _
  have hsz1 : w1.heap.size = w.heap.size + 1 := by rw [hw1]; simp
  obtain ⟨w2, hw2⟩ : ∃ w2, w2 = w1.alloc (.cells levCells 206) := ⟨_, rfl⟩
  have hp2 : Par w2 w.heap.size s 0 0 := by rw [hw2]; exact Blk.alloc hp1 _
  have hL : Lev w2 w1.heap.size := by rw [hw2]; exact Blk.new w1 _ _
  have hb2 : Below w.heap.size w w2 := hb1.trans (by rw [hw2]; exact (Below.refl _ _).alloc (by omega) _)
  have hE := expr_any 16 0 rfl w2 w.heap.size w1.heap.size s 0 hp2 hs (Nat.zero_le _) (he.below hb2) hL
  rw [List.drop_zero, hsz1] at hE
  have hcS : w2.cell? ⟨S, 0, none⟩ = some (.string s) := cell_below hS hb2
  have hcX : w2.cell? ⟨X, 0, none⟩ = some v0 := cell_below hX hb2
  have hfX : w2.frozen? ⟨X, 0, none⟩ = false := (World.frozen?_of_block (hb2.block X hlX)).trans hz
  obtain ⟨res, hres⟩ : ∃ res, res = exprE 16 (txt s) := ⟨_, rfl⟩
  rw [← hres] at hE
  have HL := Lib.hid (levels_any w1)
  rw [hsz1, ← hw2] at HL
  have HR := Lib.hid hres
  have HW1 := Lib.hid hw1
  clear hres hw1 hw2
  cases res with
  | none =>
    have hpe : parseE (txt s) = none := by unfold parseE; rw [← HR.out]
    rw [hpe]
    have HE := Lib.hid hE
    clear hE
    go_enter Tryz.func110, Tryz.ntmps110
    go_wp2_with fail
    rw [← HW1.out]
    refine HL.out.mono ?_
    rintro e w2' ⟨rfl, rfl⟩
    go_wp2_with fail
    refine HE.out.mono ?_
    rintro e w3 ⟨hst, rfl⟩
    exact ⟨rfl, over hb2 hst (Nat.le_refl _), rfl, v0, hv0, (World.cell?_of_block (a := ⟨X, 0, none⟩) (hst.block X (Nat.lt_of_lt_of_le hlX hb2.size) (by omega))).trans hcX⟩
  | some p =>
    obtain ⟨x, t⟩ := p
    have HE := Lib.hid hE
    clear hE
    go_enter Tryz.func110, Tryz.ntmps110
    go_wp2_with fail
    rw [← HW1.out]
    refine HL.out.mono ?_
    rintro e w2' ⟨rfl, rfl⟩
    go_wp2_with fail
    refine HE.out.mono ?_
    rintro e w3 ⟨hst, g, cap, at2, rfl, hle2, hdr, hp3, hx⟩
    have hXR : X ≠ w.heap.size := by omega
    have hSR : S ≠ w.heap.size := by omega
    have d0 : w3.cell? ⟨X, 0, none⟩ = some v0 := (World.cell?_of_block (a := ⟨X, 0, none⟩) (hst.block X (Nat.lt_of_lt_of_le hlX hb2.size) hXR)).trans hcX
    have df : w3.frozen? ⟨X, 0, none⟩ = false := (World.frozen?_of_block (a := ⟨X, 0, none⟩) (hst.block X (Nat.lt_of_lt_of_le hlX hb2.size) hXR)).trans hfX
    have dS : w3.cell? ⟨S, 0, none⟩ = some (.string s) := (World.cell?_of_block (a := ⟨S, 0, none⟩) (hst.block S (Nat.lt_of_lt_of_le hlS hb2.size) hSR)).trans hcS
    have e0 := cs_same (v := .func (.func g) #[] cap) d0
    have eS : (w3.setCell ⟨X, 0, none⟩ (.func (.func g) #[] cap)).cell? ⟨S, 0, none⟩ = some (.string s) := cs_other dS hne
    have hp4 : Par (w3.setCell ⟨X, 0, none⟩ (.func (.func g) #[] cap)) w.heap.size s at2 0 := Blk.setOther hp3 0 _ (fun e => hXR e.symm)
    obtain ⟨q0, q1, q2, r1, r2⟩ := hp4.facts
    have hst4 : Stays (fun k => k = X) w (w3.setCell ⟨X, 0, none⟩ (.func (.func g) #[] cap)) := (over hb2 hst (Nat.le_refl _)).cell' 0 _
    have hx4 : ExC (New w (w3.setCell ⟨X, 0, none⟩ (.func (.func g) #[] cap))) (w3.setCell ⟨X, 0, none⟩ (.func (.func g) #[] cap)) g cap x := (hx.stays (M := fun k => k = X) (Stays.cell' (.refl _ w3) 0 _) (fun k hk e => by have h1 := hk.1; have h2 := hb2.size; omega)).wider (fun k hk => ⟨Nat.le_trans hb2.size hk.1, by rw [size_set]; exact hk.2⟩) (fun k hk => hk.2)
    obtain ⟨w4, hw4⟩ : ∃ w4, w4 = w3.setCell ⟨X, 0, none⟩ (.func (.func g) #[] cap) := ⟨_, rfl⟩
    rw [← hw4] at e0 eS q0 q1 q2 hst4 hx4
    by_cases hlt : at2 < s.size
    · have hpe : parseE (txt s) = none := by
        unfold parseE
        rw [← HR.out]
        cases t with
        | nil =>
          exfalso
          have := congrArg List.length hdr
          simp at this
          omega
        | cons c t => rfl
      rw [hpe]
      have HZ := Lib.hid hw4
      clear hp4 hp3 hx hst hdr hw4
      go_wp2_with fail
      rw [← HZ.out]
      go_quiet (fail)
      go_wp2_with (go_at_call 105; refine (fail_any 4 _).mono ?_; rintro e w' ⟨rfl, rfl⟩)
      exact ⟨rfl, hst4.drewN _, rfl, _, rfl, e0⟩
    · have hpe : parseE (txt s) = some x := by
        unfold parseE
        rw [← HR.out]
        cases t with
        | nil => rfl
        | cons c t =>
          exfalso
          have := congrArg List.length hdr
          simp at this
          omega
      rw [hpe]
      have HZ := Lib.hid hw4
      clear hp4 hp3 hx hst hdr hw4
      go_wp2_with fail
      rw [← HZ.out]
      go_quiet (fail)
      go_wp2_with fail
      go_end0
      refine ⟨hst4.drewN _, ?_⟩
      rw [hpe]
      exact ⟨rfl, g, cap, e0, exDrewN hx4⟩
theorem enters110 (args : Array Value) (w : World) : (callFunc 110 args).run Tryz.prog w = .ok (.enter 110 args) w := enters_of Tryz.func110 (by kernel_rfl) rfl args w
def RetP (w : World) (r : Option Ex) (e : Ending) (w' : World) : Prop := Below w.heap.size w w' ∧ match r with
  | none => ∃ v, v.oneCell' = true ∧ e = .returned (.tuple #[v, .int .i64 4])
  | some x => ∃ g cap, e = .returned (.tuple #[.func (.func g) #[] cap, .int .i64 0]) ∧ ExC (New w w') w' g cap x
theorem stays_cell {X : Nat} {w w' : World} (h : Stays (fun k => k = X) w w') {p : Addr} {v : Value} (hp : w.cell? p = some v) (hne : p.block ≠ X) : w'.cell? p = some v := (World.cell?_of_block (h.block p.block (World.block_lt_of_cell? w p hp) hne)).trans hp
theorem stays_frozen {X : Nat} {w w' : World} (h : Stays (fun k => k = X) w w') {p : Addr} (hlt : p.block < w.heap.size) (hz : w.frozen? p = false) (hne : p.block ≠ X) : w'.frozen? p = false := (World.frozen?_of_block (h.block p.block hlt hne)).trans hz
theorem thru {w w3 w' : World} {X : Nat} (hb : Below w.heap.size w w3) (hs : Stays (fun k => k = X) w3 w') (hX : w.heap.size ≤ X) : Below w.heap.size w w' := hb.trans (hs.below hb.size (fun k hk e => by omega))
theorem parse_any {w : World} {s : ByteArray} (hs : s.size ≤ 65536) (he : ErrR w) : Calls Tryz.prog 64 #[.string s] w (RetP w (parseE (txt s))) := by
  have hmf := hmakef
  have h6 : 6 < w.heap.size := by obtain ⟨ev, h, _⟩ := he; exact World.block_lt_of_cell? w _ h
  obtain ⟨w1, hw1⟩ : ∃ w1, w1 = w.alloc (.cells #[.string s] 9) := ⟨_, rfl⟩
  have b1 : Blk w1 w.heap.size #[.string s] 9 := by rw [hw1]; exact Blk.new w _ _
  have z1 : w1.heap.size = w.heap.size + 1 := by rw [hw1]; simp
  have l1 : Below w.heap.size w w1 := by rw [hw1]; exact (Below.refl _ _).alloc (Nat.le_refl _) _
  obtain ⟨w2, hw2⟩ : ∃ w2, w2 = w1.alloc (.cells #[.nilFunc] 133) := ⟨_, rfl⟩
  have b2 : Blk w2 (w.heap.size + 1) #[.nilFunc] 133 := by rw [hw2, ← z1]; exact Blk.new w1 _ _
  have z2 : w2.heap.size = w.heap.size + 2 := by rw [hw2]; simp [z1]
  have l2 : Below w.heap.size w w2 := l1.trans (by rw [hw2]; exact (Below.refl _ _).alloc (by omega) _)
  have b12 : Blk w2 w.heap.size #[.string s] 9 := by rw [hw2]; exact b1.alloc _
  obtain ⟨w3, hw3⟩ : ∃ w3, w3 = w2.alloc (.cells #[.int .i64 0] 38) := ⟨_, rfl⟩
  have b3 : Blk w3 (w.heap.size + 2) #[.int .i64 0] 38 := by rw [hw3, ← z2]; exact Blk.new w2 _ _
  have b13 : Blk w3 w.heap.size #[.string s] 9 := by rw [hw3]; exact b12.alloc _
  have b23 : Blk w3 (w.heap.size + 1) #[.nilFunc] 133 := by rw [hw3]; exact b2.alloc _
  have l3 : Below w.heap.size w w3 := l2.trans (by rw [hw3]; exact (Below.refl _ _).alloc (by omega) _)
  have HP := parse1_any (b13.one) (b23.one) rfl (b23.frozen 0) (by omega) (by omega) hs (he.below l3)
  have z3 : w3.heap.size = w.heap.size + 3 := by rw [hw3]; simp [z2]
  cases hr : parseE (txt s) with
  | none =>
    rw [hr] at HP
    have HG := guard_err (w := w2) (k := 4) (Q := fun w' => Stays (fun k => k = w.heap.size + 1) w3 w' ∧ ∃ v, v.oneCell' = true ∧ w'.cell? ⟨w.heap.size + 1, 0, none⟩ = some v) enters110 (by rw [← hw3]; exact HP.mono fun e w' ⟨h1, h2, h3⟩ => ⟨h2, h1, h3⟩) (fun w' hq => by
      rw [z2]
      exact ⟨stays_cell hq.1 b3.one (by show w.heap.size + 2 ≠ _; omega), stays_frozen hq.1 (by show w.heap.size + 2 < _; omega) (b3.frozen 0) (by show w.heap.size + 2 ≠ _; omega)⟩)
    have HH := Lib.hid HG
    have HW := Lib.hid hw1
    have HV := Lib.hid hw2
    clear HG hw1 hw2 hw3 hr HP
    go_enter Tryz.func64, Tryz.ntmps64
    go_wp2_with fail
    rw [← HW.out, ← HV.out]
    refine HH.out.mono ?_
    rintro e w4 ⟨rfl, w5, ⟨h5, v, hv1, hv⟩, h4⟩
    have hv4 := stays_cell h4 hv (by show w.heap.size + 1 ≠ _; omega)
    have hbl : Below w.heap.size w w4 := thru (thru l3 h5 (by omega)) h4 (by omega)
    clear hv h4 h5
    go_wp2_with fail
    go_ret2
    exact ⟨hbl, v, hv1, rfl⟩
  | some x =>
    rw [hr] at HP
    have HG := guard_ok (w := w2) (Q := fun w' => Stays (fun k => k = w.heap.size + 1) w3 w' ∧ ∃ g cap, w'.cell? ⟨w.heap.size + 1, 0, none⟩ = some (.func (.func g) #[] cap) ∧ ExC (New w3 w') w' g cap x) enters110 (by rw [← hw3]; exact HP.mono fun e w' ⟨h1, h2, h3⟩ => ⟨h2, h1, h3⟩) (fun w' hq => by
      rw [z2]
      exact ⟨stays_cell hq.1 b3.one (by show w.heap.size + 2 ≠ _; omega), stays_frozen hq.1 (by show w.heap.size + 2 < _; omega) (b3.frozen 0) (by show w.heap.size + 2 ≠ _; omega)⟩)
    have HH := Lib.hid HG
    have HW := Lib.hid hw1
    have HV := Lib.hid hw2
    clear HG hw1 hw2 hw3 hr HP
    go_enter Tryz.func64, Tryz.ntmps64
    go_wp2_with fail
    rw [← HW.out, ← HV.out]
    refine HH.out.mono ?_
    rintro e w4 ⟨rfl, w5, ⟨h5, g, cap, hv, hx⟩, rfl⟩
    have h4 : Stays (fun k => k = w2.heap.size) w5 (w5.setCell ⟨w2.heap.size, 0, none⟩ (.int .i64 0)) := Stays.cell' (.refl _ w5) 0 _
    have hv4 := stays_cell h4 hv (by show w.heap.size + 1 ≠ _; omega)
    have hbl : Below w.heap.size w (w5.setCell ⟨w2.heap.size, 0, none⟩ (.int .i64 0)) := thru (thru l3 h5 (by omega)) h4 (by omega)
    have hx4 : ExC (New w (w5.setCell ⟨w2.heap.size, 0, none⟩ (.int .i64 0))) (w5.setCell ⟨w2.heap.size, 0, none⟩ (.int .i64 0)) g cap x :=
      (hx.stays h4 (fun k hk e => by have := hk.1; omega)).wider (fun k hk => ⟨by have := hk.1; omega, by rw [size_set]; exact hk.2⟩) (fun k hk => hk.2)
    obtain ⟨w6, hw6⟩ : ∃ w6, w6 = w5.setCell ⟨w2.heap.size, 0, none⟩ (.int .i64 0) := ⟨_, rfl⟩
    rw [← hw6] at hv4 hbl hx4
    rw [← hw6]
    clear hv h4 h5 hw6 hx
    go_wp2_with fail
    go_ret2
    exact ⟨hbl, g, cap, rfl, hx4⟩
end Go.Proofs.YtddnmocoaahlfaaGreatDoor
