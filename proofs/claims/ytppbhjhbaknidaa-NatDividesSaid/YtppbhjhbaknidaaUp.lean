/-
  The contract of the program's up: the number times a power of the base. Condition: sizes of at most 2^33 bits.
-/
import Derived.Test.YtppbhjhbaknidaaNum
import Derived.Laws.CopyOwn
namespace Go.Proofs.Ytppbhjhbaknidaa
open Go.RowKit

theorem cellsOf_eq (K : IntKind) (xs : List Nat) : cellsOf K xs = (xs.map fun (x : Nat) => Value.int K (x : Int)).toArray := rfl

/-- 'copy(out[off:], src)' into a block of numbers of the call's own. -/
theorem wpList_copy_nums {P : Program} {w : World} {ops : Array Oper} {rest : List Oper} {o : Oper} {a : Act} {Q : Exit → Act → World → Prop} (hgd : o.guard = none) (d s : Operand) (dT sT : TypeId)
    (ho : o.op = .call { callee := .builtin .copy, args := #[d, s], argTypes := #[dT, sT] }) (elem : TypeId) (hu : P.underlying dT = some (.slice elem)) (hsz : (P.info? elem).map (·.size) = some 1)
    (dp : Option Addr) (dLen dCap : Nat) (hd : a.eval d = .slice dp dLen dCap) (K : IntKind) (sp : Option Addr) (sLen sCap b off2 : Nat) (ys : List Nat) (hs : a.eval s = .slice sp sLen sCap) (hsl : SlAt w K sp sLen sCap b off2 ys)
    (g off : Nat) (zs : List Nat) (E : TypeId) (hown : Own w K E g zs) (m : Nat) (hm : m = Nat.min sLen dLen) (hdp : 0 < m → dp = some ⟨g, off, none⟩) (hfit : off + m ≤ zs.length)
    (B : Nat) (w0 : World) (hb : Below B w0 w) (hBg : B ≤ g)
    (h : ∀ w', Own w' K E g (zs.take off ++ (ys.take m ++ zs.drop (off + m))) → Below B w0 w' → wpList P ops Q rest (a.put o.dst (goInt m)) w') :
    wpList P ops Q (o :: rest) a w := by
  have hmin : m ≤ sLen := by rw [hm]; exact Nat.min_le_left _ _
  have hlen : (ys.take m).length = m := by rw [List.length_take, hsl.len]; omega
  have hcl : ((ys.take m).map fun (x : Nat) => Value.int K (x : Int)).length = m := by rw [List.length_map, hlen]
  have key := wpList_copy_splice (P := P) (w := w) (ops := ops) (rest := rest) (o := o) (a := a) (Q := Q) hgd d s dT sT ho elem hu hsz dp sp dLen dCap sLen sCap hd hs g off
    (zs.map fun (x : Nat) => Value.int K (x : Int)) E hown ((ys.take m).map fun (x : Nat) => Value.int K (x : Int)) (by rw [hcl, hm]) ?_ (by rw [hcl, List.length_map]; exact hfit) ?_ B w0 hb hBg ?_
  · exact key
  · intro hpos
    rw [hcl] at hpos
    refine ⟨hdp hpos, ⟨b, off2, none⟩, hsl.addr.resolve_right (by omega), ?_⟩
    intro j v hj
    have hj' : j < m := by
      have := (List.getElem?_eq_some_iff.1 hj).1
      rw [hcl] at this; exact this
    rw [Addr.add_lit, hsl.cells j (by omega)]
    rw [List.getElem?_map, List.getElem?_take, if_pos hj'] at hj
    simp only [Option.map_eq_some_iff] at hj
    obtain ⟨x, hx, rfl⟩ := hj
    simp [nth, List.getD_eq_getElem?_getD, hx]
  · intro v hv
    obtain ⟨x, _, rfl⟩ := List.mem_map.1 hv
    rfl
  · intro w' hg hbel
    rw [hcl]
    refine h w' ?_ hbel
    have := hg.out
    unfold Own cellsOf
    rw [this]
    have hl2 : min m ys.length = m := by rw [hsl.len]; omega
    simp [splice, hl2]

theorem trim_append {xs ys : List Nat} (h : trim ys = ys) (hn : ys ≠ []) : trim (xs ++ ys) = xs ++ ys := by
  induction xs with
  | nil => exact h
  | cons x xs ih =>
    rw [List.cons_append, trim, ih]
    cases hc : xs ++ ys with
    | nil => rw [List.append_eq_nil_iff] at hc; exact absurd hc.2 hn
    | cons z zs => rfl

set_option maxHeartbeats 1000000 in
theorem up_any {w : World} {v : Value} {m : Nat} (ha : IsN w v m) (k : Int) (hk0 : 0 ≤ k) (hk : k ≤ 268435456) (L : Nat) (hL : L ≤ 8589934592) (hm : m < P2 L) :
    Calls Try.prog 128 #[v, .int .i64 k] w (RetN w (m * P2 (32 * k.toNat))) := by
  obtain ⟨k, rfl⟩ := Int.eq_ofNat_of_zero_le hk0
  rw [Int.toNat_natCast]
  obtain ⟨xs, ha, hca, rfl⟩ := ha
  have l1 := hca.len_P2 hm
  obtain ⟨ao, n, cap, b, off, rfl, hs⟩ := ha
  rw [hs.len] at l1
  have hnb : n ≤ 300000000 := by omega
  have hle := hs.le
  have hmax := hs.max
  clear hm
  by_cases h0 : n = 0
  · have hx : xs = [] := List.eq_nil_of_length_eq_zero (by rw [hs.len, h0])
    subst hx
    have hb : ((n : Int) == 0) = true := by simp [h0]
    rw [show val 4294967296 [] = 0 from rfl, Nat.zero_mul]
    go_enter Try.func128, Try.ntmps128
    go_wp2
    go_ret
    exact ⟨_, rfl, IsN.zero _, Below.refl _ _⟩
  · have hb : ((n : Int) == 0) = false := by simp [h0]
    have hne : xs ≠ [] := fun h => h0 (by rw [← hs.len, h]; rfl)
    have hca2 : Can 4294967296 (List.replicate k 0 ++ xs) := ⟨(Dg.zeros (by omega) k).append hca.1, trim_append hca.2 hne⟩
    have hval : val 4294967296 (List.replicate k 0 ++ xs) = val 4294967296 xs * P2 (32 * k) := by
      rw [val_append, val_zeros, List.length_replicate, P2_32, Nat.zero_add, Nat.mul_comm]
    have HV := Lib.hid hval
    clear hval hne
    go_enter Try.func128, Try.ntmps128
    go_wp2_with (first | (at_make; refine wpList_make_nums _ rfl _ _ 23 rfl 115 .u32 4 Try.underlying23 (by kernel_rfl) .i64 .i64 _ _ (k + n) rfl rfl rfl rfl (by omega) (by omega) ?_; intro w1 hown hbel; clear hL l1) | (with_reducible (refine wpList_copy_nums rfl (.tmp 16) (.tmp 17) 23 23 rfl 115 Try.underlying23 ?c1 ?d1 ?d2 ?d3 ?c2 .u32 ?d4 ?d5 ?d6 b off xs ?c3 ?c4 w.heap.size k (List.replicate (k + n) 0) 115 ?c5 n ?c6 ?c7 ?c8 w.heap.size w ?c9 ?c10 ?c11)))
    case c1 => kernel_rfl
    case c2 => exact rfl
    case c3 => exact rfl
    case c4 => exact hs.below hbel
    case c5 => exact hown
    case c6 => simp
    case c7 => exact fun _ => rfl
    case c8 => simp
    case c9 => exact hbel
    case c10 => exact Nat.le_refl _
    intro w2 hown2 hbel2
    rw [List.take_of_length_le (by rw [hs.len]; omega)] at hown2
    go_wp2
    go_ret
    refine ⟨_, rfl, ⟨_, hown2.sl (by rw [List.length_append, List.length_replicate, hs.len]) (by omega) hca2.1.wf32, hca2, HV.out⟩, hbel2⟩
end Go.Proofs.Ytppbhjhbaknidaa
