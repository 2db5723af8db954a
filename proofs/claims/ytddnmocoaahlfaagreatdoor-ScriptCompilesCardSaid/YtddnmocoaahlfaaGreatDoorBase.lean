/-
  Frames, panics, and the small functions of the reader of expressions: peek, contains, letter, digit, bit, fail, small, size, and the operators. Conditions: the bounds that each states.
-/
import Derived.Test.YtddnmocoaahlfaaGreatDoorChecked
import Derived.WalkKit
import Derived.WalkSpells
import Derived.BigQuiet
import Derived.Lib.Hide
import Derived.Deep.QuietTactic
import Derived.Deep.RegionHeld3
import Derived.Deep.LoopGhost
import Derived.Test.YtddnmocoaahlfaaGreatDoorPlain
set_option linter.unusedVariables false
set_option linter.unusedSimpArgs false
namespace Go.Proofs.YtddnmocoaahlfaaGreatDoor
open Go.RowKit
def Tr (k : Int) : PanicEntry := { v := .iface 172 (.agg #[.int .i64 k]), recovered := false }
theorem hpanic (u : TypeId) (x : Value) (w : World) : Sem.run Tryz.prog (Instr.panic (.iface u x)) w = .halt (.panic (.iface u x)) w := rfl
theorem hmakef (fn : Fn) (first cap : Array Value) (w : World) : (Instr.makeFunc fn first cap).run Tryz.prog w = .ok (.func fn first cap) w := rfl
structure Stays (M : Nat → Prop) (w w' : World) : Prop where
  os : w'.os = w.os
  tape : w'.tape = w.tape
  output : w'.output = w.output
  size : w.heap.size ≤ w'.heap.size
  block : ∀ k, k < w.heap.size → ¬ M k → w'.heap[k]? = w.heap[k]?
theorem Stays.refl (M : Nat → Prop) (w : World) : Stays M w w := ⟨rfl, rfl, rfl, Nat.le_refl _, fun _ _ _ => rfl⟩
theorem Stays.trans {M : Nat → Prop} {a b c : World} (h : Stays M a b) (k : Stays M b c) : Stays M a c :=
  ⟨k.os.trans h.os, k.tape.trans h.tape, k.output.trans h.output, Nat.le_trans h.size k.size, fun i hi hm => (k.block i (Nat.lt_of_lt_of_le hi h.size) hm).trans (h.block i hi hm)⟩
theorem Stays.mono {M M' : Nat → Prop} {w w' : World} (h : Stays M w w') (hm : ∀ k, k < w.heap.size → M k → M' k) : Stays M' w w' :=
  ⟨h.os, h.tape, h.output, h.size, fun k hk hn => h.block k hk fun e => hn (hm k hk e)⟩
theorem Stays.of {M : Nat → Prop} {w w' : World} (h : Below w.heap.size w w') : Stays M w w' := ⟨h.os, h.tape, h.output, h.size, fun k hk _ => h.block k hk⟩
theorem Stays.below {M : Nat → Prop} {w w' : World} (h : Stays M w w') {B : Nat} (hB : B ≤ w.heap.size) (hm : ∀ k, k < B → ¬ M k) : Below B w w' := ⟨h.os, h.tape, h.output, h.size, fun k hk => h.block k (Nat.lt_of_lt_of_le hk hB) (hm k hk)⟩
theorem Stays.next {M : Nat → Prop} {a w w' : World} (h : Stays M a w) (b : Below w.heap.size w w') : Stays M a w' := h.trans (.of b)
theorem Stays.alloc {M : Nat → Prop} {a w : World} (h : Stays M a w) (o : Obj) : Stays M a (w.alloc o) := h.next ((Below.refl _ w).alloc (Nat.le_refl _) o)
theorem Stays.set {M : Nat → Prop} {a w : World} (h : Stays M a w) {p : Addr} (hp : M p.block ∨ a.heap.size ≤ p.block) (u : Value) : Stays M a (w.setCell p u) :=
  ⟨h.os, h.tape, h.output, by have := h.size; simp [World.setCell]; exact this, fun k hk hn => by
    have hne : k ≠ p.block := by
      rintro rfl
      rcases hp with hp | hp
      · exact hn hp
      · omega
    rw [Below.heap_setCell _ _ _ _ hne]
    exact h.block k hk hn⟩
theorem Stays.drewN {M : Nat → Prop} {a w : World} (h : Stays M a w) (n : Nat) : Stays M a (w.drewN n) := ⟨h.os, h.tape, h.output, h.size, h.block⟩
def Blk (w : World) (R : Nat) (cs : Array Value) (T : TypeId) : Prop := w.heap[R]? = some (.cells cs T (0, 0))
theorem Blk.new (w : World) (cs : Array Value) (T : TypeId) : Blk (w.alloc (.cells cs T)) w.heap.size cs T := heap_alloc_new w _
theorem Blk.alloc {w : World} {R : Nat} {cs : Array Value} {T : TypeId} (h : Blk w R cs T) (o : Obj) : Blk (w.alloc o) R cs T := by
  unfold Blk at *
  rw [heap_alloc_old w o (Array.getElem?_eq_some_iff.1 h).1]; exact h
theorem Blk.lt {w : World} {R : Nat} {cs : Array Value} {T : TypeId} (h : Blk w R cs T) : R < w.heap.size := (Array.getElem?_eq_some_iff.1 h).1
theorem Blk.stays {w w' : World} {R : Nat} {cs : Array Value} {T : TypeId} {M : Nat → Prop} (h : Blk w R cs T) (hb : Stays M w w') (hm : ¬ M R) : Blk w' R cs T := by
  have hl := h.lt
  unfold Blk at *
  rw [hb.block R hl hm]; exact h
theorem Blk.below {w w' : World} {R : Nat} {cs : Array Value} {T : TypeId} (h : Blk w R cs T) (hb : Below w.heap.size w w') : Blk w' R cs T := h.stays (M := fun _ => False) (.of hb) (fun h => h)
theorem Blk.set {w : World} {R : Nat} {cs : Array Value} {T : TypeId} (h : Blk w R cs T) (i : Nat) (v : Value) : Blk (w.setCell ⟨R, i, none⟩ v) R (cs.setIfInBounds i v) T := by
  unfold Blk at *
  simp only [World.setCell, Array.getElem?_modify, h, Option.map_some, if_true]
  simp
theorem Blk.setOther {w : World} {R R' : Nat} {cs : Array Value} {T : TypeId} (h : Blk w R cs T) (i : Nat) (v : Value) (hne : R ≠ R') : Blk (w.setCell ⟨R', i, none⟩ v) R cs T := by
  unfold Blk at *
  rw [Below.heap_setCell _ _ _ _ hne]; exact h
theorem Blk.cell {w : World} {R : Nat} {cs : Array Value} {T : TypeId} (h : Blk w R cs T) (i : Nat) : w.cell? ⟨R, i, none⟩ = cs[i]? := by
  unfold Blk at h; simp [World.cell?, h]
theorem Blk.frozen {w : World} {R : Nat} {cs : Array Value} {T : TypeId} (h : Blk w R cs T) (i : Nat) : w.frozen? ⟨R, i, none⟩ = false := by
  unfold Blk at h; simp [World.frozen?, h]
theorem Blk.drewN {w : World} {R : Nat} {cs : Array Value} {T : TypeId} (h : Blk w R cs T) (n : Nat) : Blk (w.drewN n) R cs T := h
abbrev txt (s : ByteArray) : List UInt8 := s.data.toList
def Par (w : World) (R : Nat) (s : ByteArray) (at_ op : Nat) : Prop := Blk w R #[.string s, .int .i64 at_, .int .i64 op] 179
theorem Par.facts {w : World} {R : Nat} {s : ByteArray} {at_ op : Nat} (h : Par w R s at_ op) :
    w.cell? ⟨R, 0, none⟩ = some (.string s) ∧ w.cell? ⟨R, 1, none⟩ = some (.int .i64 at_) ∧ w.cell? ⟨R, 2, none⟩ = some (.int .i64 op) ∧ w.frozen? ⟨R, 1, none⟩ = false ∧ w.frozen? ⟨R, 2, none⟩ = false :=
  ⟨(Blk.cell h 0).trans rfl, (Blk.cell h 1).trans rfl, (Blk.cell h 2).trans rfl, Blk.frozen h 1, Blk.frozen h 2⟩
def RetV (w : World) (v : Value) (e : Ending) (w' : World) : Prop := e = .returned v ∧ Below w.heap.size w w'
def RetX (w : World) (r : Except Int Int) (e : Ending) (w' : World) : Prop :=
  Below w.heap.size w w' ∧ match r with | .ok n => e = .returned (.int .i64 n) | .error k => e = .panicked [Tr k]
theorem fail_any (k : Int) (w : World) : Calls Tryz.prog 105 #[.int .i64 k] w (fun e w' => e = .panicked [Tr k] ∧ w' = w) := by
  have hp := hpanic
  go_enter Tryz.func105, Tryz.ntmps105
  go_wp2
  exact ⟨rfl, rfl, rfl⟩
def PanV (w : World) (k : Int) (e : Ending) (w' : World) : Prop := e = .panicked [Tr k] ∧ Below w.heap.size w w'
theorem retx_ok {r : Except Int Int} {n : Int} (h : r = .ok n) {f : FuncId} {args : Array Value} {w : World} (c : Calls Tryz.prog f args w (RetX w r)) : Calls Tryz.prog f args w (RetV w (.int .i64 n)) := by
  subst h; exact c.mono fun e w' h => ⟨h.2, h.1⟩
theorem retx_err {r : Except Int Int} {k : Int} (h : r = .error k) {f : FuncId} {args : Array Value} {w : World} (c : Calls Tryz.prog f args w (RetX w r)) : Calls Tryz.prog f args w (PanV w k) := by
  subst h; exact c.mono fun e w' h => ⟨h.2, h.1⟩
theorem bit_any (b : Bool) (w : World) : Calls Tryz.prog 51 #[.bool b] w (fun e w' => e = .returned (.int .i64 (bit b)) ∧ w' = w) := by
  cases b
  · go_enter Tryz.func51, Tryz.ntmps51
    go_wp2
    go_ret
    exact ⟨rfl, rfl⟩
  · go_enter Tryz.func51, Tryz.ntmps51
    go_wp2
    go_ret
    exact ⟨rfl, rfl⟩
theorem small_any (n : Int) (w : World) : Calls Tryz.prog 164 #[.int .i64 n] w (RetX w (small n)) := by
  by_cases h1 : n < -9007199254740992
  · go_enter Tryz.func164, Tryz.ntmps164
    go_wp2_with (go_at_call 105; refine (fail_any 101 _).mono ?_; rintro e w' ⟨rfl, rfl⟩)
    refine ⟨rfl, Below.refl _ _, ?_⟩
    simp [small, maxValue, h1]
  · by_cases h2 : 9007199254740992 < n
    · go_enter Tryz.func164, Tryz.ntmps164
      go_wp2_with (go_at_call 105; refine (fail_any 101 _).mono ?_; rintro e w' ⟨rfl, rfl⟩)
      refine ⟨rfl, Below.refl _ _, ?_⟩
      simp [small, maxValue, h2]
    · go_enter Tryz.func164, Tryz.ntmps164
      go_wp2_with (fail)
      go_ret
      refine ⟨Below.refl _ _, ?_⟩
      rw [small_within (by unfold Within maxValue; omega)]
      rfl
theorem size_any (n : Int) (w : World) (h : Within n) : Calls Tryz.prog 166 #[.int .i64 n] w (fun e w' => e = .returned (.int .u64 n.natAbs) ∧ w' = w) := by
  unfold Within maxValue at h
  by_cases h1 : n < 0
  · go_enter Tryz.func166, Tryz.ntmps166
    go_wp2
    go_ret
    refine ⟨?_, rfl⟩
    have : (n.natAbs : Int) = -n := by omega
    rw [this]; rfl
  · go_enter Tryz.func166, Tryz.ntmps166
    go_wp2
    go_ret
    refine ⟨?_, rfl⟩
    have : (n.natAbs : Int) = n := by omega
    rw [this]; rfl
theorem sum_any (op : UInt8) (a b : Int) (w : World) (ho : op = 43 ∨ op = 45) (ha : Within a) (hb : Within b) : Calls Tryz.prog 143 #[.int .u8 op.toNat, .int .i64 a, .int .i64 b] w (RetX w (applyOp op a b)) := by
  unfold Within maxValue at ha hb
  rcases ho with rfl | rfl
  · have e : applyOp 43 a b = small (a + b) := rfl
    rw [e]
    cases hs : small (a + b) with
    | ok n =>
      go_enter Tryz.func143, Tryz.ntmps143
      go_wp2_with (go_at_call 164; refine (retx_ok hs (small_any _ _)).mono ?_; rintro e w' ⟨rfl, bb⟩)
      go_ret
      exact ⟨bb, rfl⟩
    | error k =>
      go_enter Tryz.func143, Tryz.ntmps143
      go_wp2_with (go_at_call 164; refine (retx_err hs (small_any _ _)).mono ?_; rintro e w' ⟨rfl, bb⟩)
      exact ⟨rfl, bb, rfl⟩
  · have e : applyOp 45 a b = small (a + -b) := by rw [← Int.sub_eq_add_neg]; rfl
    rw [e]
    cases hs : small (a + -b) with
    | ok n =>
      go_enter Tryz.func143, Tryz.ntmps143
      go_wp2_with (go_at_call 164; refine (retx_ok hs (small_any _ _)).mono ?_; rintro e w' ⟨rfl, bb⟩)
      go_ret
      exact ⟨bb, rfl⟩
    | error k =>
      go_enter Tryz.func143, Tryz.ntmps143
      go_wp2_with (go_at_call 164; refine (retx_err hs (small_any _ _)).mono ?_; rintro e w' ⟨rfl, bb⟩)
      exact ⟨rfl, bb, rfl⟩
theorem or_any (op : UInt8) (a b : Int) (w : World) (ho : op = 124) : Calls Tryz.prog 140 #[.int .u8 op.toNat, .int .i64 a, .int .i64 b] w (RetX w (applyOp op a b)) := by
  subst ho
  have e : applyOp 124 a b = .ok (bit (decide (a ≠ 0 ∨ b ≠ 0))) := rfl
  rw [e]
  by_cases h1 : a = 0
  · by_cases h2 : b = 0
    · go_enter Tryz.func140, Tryz.ntmps140
      go_wp2_with (go_at_call 51; refine (bit_any _ _).mono ?_; rintro e w' ⟨rfl, rfl⟩)
      go_ret
      exact ⟨Below.refl _ _, by simp [h1, h2]⟩
    · go_enter Tryz.func140, Tryz.ntmps140
      go_wp2_with (go_at_call 51; refine (bit_any _ _).mono ?_; rintro e w' ⟨rfl, rfl⟩)
      go_ret
      exact ⟨Below.refl _ _, by have : (b != 0) = true := by simp [h2]
                                simp [h1, h2, this]⟩
  · go_enter Tryz.func140, Tryz.ntmps140
    go_wp2_with (go_at_call 51; refine (bit_any _ _).mono ?_; rintro e w' ⟨rfl, rfl⟩)
    go_ret
    exact ⟨Below.refl _ _, by simp [h1]⟩
theorem and_any (op : UInt8) (a b : Int) (w : World) (ho : op = 38) : Calls Tryz.prog 141 #[.int .u8 op.toNat, .int .i64 a, .int .i64 b] w (RetX w (applyOp op a b)) := by
  subst ho
  have e : applyOp 38 a b = .ok (bit (decide (a ≠ 0 ∧ b ≠ 0))) := rfl
  rw [e]
  by_cases h1 : a = 0
  · go_enter Tryz.func141, Tryz.ntmps141
    go_wp2_with (go_at_call 51; refine (bit_any _ _).mono ?_; rintro e w' ⟨rfl, rfl⟩)
    go_ret
    exact ⟨Below.refl _ _, by simp [h1]⟩
  · by_cases h2 : b = 0
    · go_enter Tryz.func141, Tryz.ntmps141
      go_wp2_with (go_at_call 51; refine (bit_any _ _).mono ?_; rintro e w' ⟨rfl, rfl⟩)
      go_ret
      exact ⟨Below.refl _ _, by simp [h1, h2]⟩
    · go_enter Tryz.func141, Tryz.ntmps141
      go_wp2_with (go_at_call 51; refine (bit_any _ _).mono ?_; rintro e w' ⟨rfl, rfl⟩)
      go_ret
      exact ⟨Below.refl _ _, by have h3 : (b != 0) = true := by simp [h2]
                                have h4 : (a != 0) = true := by simp [h1]
                                simp [h1, h2, h3, h4]⟩
theorem compare_any (op : UInt8) (a b : Int) (w : World) (ho : op = 61 ∨ op = 60 ∨ op = 62) : Calls Tryz.prog 142 #[.int .u8 op.toNat, .int .i64 a, .int .i64 b] w (RetX w (applyOp op a b)) := by
  rcases ho with rfl | rfl | rfl
  · have e : applyOp 61 a b = .ok (bit (decide (a = b))) := rfl
    rw [e]
    go_enter Tryz.func142, Tryz.ntmps142
    go_wp2_with (go_at_call 51; refine (bit_any _ _).mono ?_; rintro e w' ⟨rfl, rfl⟩)
    go_ret
    exact ⟨Below.refl _ _, by have h3 : (a == b) = decide (a = b) := by by_cases h : a = b <;> simp [h]
                              rw [h3]; rfl⟩
  · have e : applyOp 60 a b = .ok (bit (decide (a < b))) := rfl
    rw [e]
    go_enter Tryz.func142, Tryz.ntmps142
    go_wp2_with (go_at_call 51; refine (bit_any _ _).mono ?_; rintro e w' ⟨rfl, rfl⟩)
    go_ret
    exact ⟨Below.refl _ _, by simp⟩
  · have e : applyOp 62 a b = .ok (bit (decide (a > b))) := rfl
    rw [e]
    go_enter Tryz.func142, Tryz.ntmps142
    go_wp2_with (go_at_call 51; refine (bit_any _ _).mono ?_; rintro e w' ⟨rfl, rfl⟩)
    go_ret
    exact ⟨Below.refl _ _, by simp⟩
def byteAt (s : ByteArray) (i : Nat) : UInt8 := ((txt s).drop i).headD 0
theorem byteAt_lt {s : ByteArray} {i : Nat} (h : i < s.size) : byteAt s i = s[i] := by
  have h' : i < (txt s).length := by simpa using h
  unfold byteAt
  rw [List.drop_eq_getElem_cons h', List.headD_cons]
  rfl
theorem byteAt_ge {s : ByteArray} {i : Nat} (h : s.size ≤ i) : byteAt s i = 0 := by
  unfold byteAt
  rw [List.drop_of_length_le (by simpa using h)]; rfl
theorem drop_byte {s : ByteArray} {i : Nat} (h : i < s.size) : (txt s).drop i = byteAt s i :: (txt s).drop (i + 1) := by
  have h' : i < (txt s).length := by simpa using h
  rw [byteAt_lt h, List.drop_eq_getElem_cons h']
  rfl
theorem drop_end {s : ByteArray} {i : Nat} (h : s.size ≤ i) : (txt s).drop i = [] := List.drop_of_length_le (by simpa using h)
theorem drewN_below (w : World) (n : Nat) : Below w.heap.size w (w.drewN n) := ⟨rfl, rfl, rfl, Nat.le_refl _, fun _ _ => rfl⟩
theorem peek_any {w : World} {R : Nat} {s : ByteArray} {at_ op : Nat} (h : Par w R s at_ op) (hs : s.size ≤ 65536) :
    Calls Tryz.prog 137 #[.pointer (some ⟨R, 0, none⟩)] w (fun e w' => e = .returned (.int .u8 (byteAt s at_).toNat) ∧ ∃ q, w' = w.drewN q) := by
  obtain ⟨c0, c1, c2, f1, f2⟩ := h.facts
  by_cases hl : at_ < s.size
  · rw [byteAt_lt hl]
    go_enter Tryz.func137, Tryz.ntmps137
    go_wp2_with fail
    go_quiet (fail)
    go_wp2_with fail
    go_quiet (fail)
    go_wp2_with fail
    go_ret
    exact ⟨rfl, _, (World.drewN_drewN _ _ _)⟩
  · rw [byteAt_ge (by omega)]
    have hd : decide ((at_ : Int) < (s.size : Int)) = false := decide_eq_false (by omega)
    go_enter Tryz.func137, Tryz.ntmps137
    go_wp2_with fail
    go_quiet (fail)
    go_wp2_with fail
    go_ret
    exact ⟨rfl, _, rfl⟩
theorem letter_any (c : UInt8) (w : World) : Calls Tryz.prog 178 #[.int .u8 c.toNat] w (fun e w' => e = .returned (.bool (isLet c)) ∧ w' = w) := by
  have e1 : isLet c = (decide (97 ≤ c.toNat) && decide (c.toNat ≤ 122)) := rfl
  rw [e1]
  by_cases h1 : 97 ≤ c.toNat
  · by_cases h2 : c.toNat ≤ 122
    · have g1 : (97 : Int) ≤ (c.toNat : Int) := by omega
      have g2 : (c.toNat : Int) ≤ 122 := by omega
      go_enter Tryz.func178, Tryz.ntmps178
      go_wp2_with fail
      go_ret
      exact ⟨by simp [h1, h2], rfl⟩
    · have g1 : (97 : Int) ≤ (c.toNat : Int) := by omega
      have g2 : ¬ (c.toNat : Int) ≤ 122 := by omega
      go_enter Tryz.func178, Tryz.ntmps178
      go_wp2_with fail
      go_ret
      exact ⟨by simp [h1, h2], rfl⟩
  · have g1 : ¬ (97 : Int) ≤ (c.toNat : Int) := by omega
    go_enter Tryz.func178, Tryz.ntmps178
    go_wp2_with fail
    go_ret
    exact ⟨by simp [h1], rfl⟩
theorem digit_any (c : UInt8) (w : World) : Calls Tryz.prog 179 #[.int .u8 c.toNat] w (fun e w' => e = .returned (.bool (isDig c)) ∧ w' = w) := by
  have e1 : isDig c = (decide (48 ≤ c.toNat) && decide (c.toNat ≤ 57)) := rfl
  rw [e1]
  by_cases h1 : 48 ≤ c.toNat
  · by_cases h2 : c.toNat ≤ 57
    · have g1 : (48 : Int) ≤ (c.toNat : Int) := by omega
      have g2 : (c.toNat : Int) ≤ 57 := by omega
      go_enter Tryz.func179, Tryz.ntmps179
      go_wp2_with fail
      go_ret
      exact ⟨by simp [h1, h2], rfl⟩
    · have g1 : (48 : Int) ≤ (c.toNat : Int) := by omega
      have g2 : ¬ (c.toNat : Int) ≤ 57 := by omega
      go_enter Tryz.func179, Tryz.ntmps179
      go_wp2_with fail
      go_ret
      exact ⟨by simp [h1, h2], rfl⟩
  · have g1 : ¬ (48 : Int) ≤ (c.toNat : Int) := by omega
    go_enter Tryz.func179, Tryz.ntmps179
    go_wp2_with fail
    go_ret
    exact ⟨by simp [h1], rfl⟩
def hasB (s : ByteArray) (c : UInt8) : Bool := (txt s).contains c
theorem contains_any (s : ByteArray) (c : UInt8) (w : World) (hs : s.size ≤ 65536) : Calls Tryz.prog 138 #[.string s, .int .u8 c.toNat] w (fun e w' => e = .returned (.bool (hasB s c)) ∧ w' = w) := by
  go_enter Tryz.func138, Tryz.ntmps138
  go_wp2_with fail
  go_loop [8] (fun t => ∃ m : Nat, m ≤ s.size ∧ t = .int .i64 m ∧ ((txt s).drop m).contains c = hasB s c) (fun t => s.size - (intOf t).toNat)
  case atStart => exact ⟨0, Nat.zero_le _, rfl, rfl⟩
  case round =>
    obtain ⟨m, hm, rfl, hc⟩ := hrel
    have HC := Lib.hid hc
    clear hc
    by_cases hl : m < s.size
    · have hdr := drop_byte hl
      have hby := byteAt_lt hl
      have HD := Lib.hid hdr
      have HY := Lib.hid hby
      clear hdr hby
      by_cases hb : s[m].toNat = c.toNat
      · have hbb : ((s[m].toNat : Int) == (c.toNat : Int)) = true := by simp [hb]
        have hcc : hasB s c = true := by
          have : byteAt s m = c := by rw [HY.out]; exact UInt8.toNat_inj.1 hb
          rw [← HC.out, HD.out, this]; simp
        rw [hcc]
        go_wp2
        go_ret
        exact ⟨rfl, rfl⟩
      · have hbb : ((s[m].toNat : Int) == (c.toNat : Int)) = false := by simp; omega
        have HB := Lib.hid hb
        clear hb
        go_wp2
        go_round
        case rel =>
          refine ⟨m + 1, by omega, by go_num, ?_⟩
          have : byteAt s m ≠ c := by rw [HY.out]; intro e; exact HB.out (by rw [e])
          rw [← HC.out, HD.out]
          simp [Ne.symm this]
        case measure => simp [intOf]; omega
    · have hm' : m = s.size := by omega
      subst hm'
      have hcc : hasB s c = false := by rw [← HC.out, drop_end (Nat.le_refl _)]; rfl
      rw [hcc]
      go_wp2
      go_ret
      exact ⟨rfl, rfl⟩
end Go.Proofs.YtddnmocoaahlfaaGreatDoor
