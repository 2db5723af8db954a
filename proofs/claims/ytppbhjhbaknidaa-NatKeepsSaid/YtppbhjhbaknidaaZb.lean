/-
  DERIVED: THE SHELF's CONTRACTS AT THIS DUMP, IN PLAIN WORDS (tools/lay-plain.mjs out of 'TryShelf.lean', which tools/lay-shelf.mjs wrote): THE SAME DECLARATIONS UNDER THE SAME NAMES: 'import', 'namespace', 'open', 'def', 'theorem' AND NOTHING ELSE: no command of the shelf's: FOR A HAND-IN. Each laying: the table of numbers ('.._ren') and one theorem, a field a fact of the dump's own or the kernel's comparison; each contract: ONE APPLICATION. The contracts of the program's words and bitLen: the words of a number of 64 bits; the bit length. Condition: numbers of at most 2^33 bits. The contracts of the program's lsh and rsh: the number times, and divided by, a power of two. Condition: sizes of at most 2^32 bits. The contract of the program's rsh: the number divided by a power of two, rounded down. Condition: sizes of at most 2^32 bits. The contract of the program's divWord: quotient and remainder by a word. Conditions: the word is not 0; numbers of at most 2^33 bits. The contract of the program's estimate: the digit of the quotient, or one too great. Conditions: the divisor's highest word has its top bit set; the dividend's three words are less than the base times one more than the divisor's two. The contract of the program's reduce: the digit times the divisor is taken from the dividend in place, the digit corrected. Conditions: the digit is right or one too great; lengths of at most 2^30. The long division's invariant, in plain Lean: no program. No condition. The contract of the program's divMod: quotient and remainder. Conditions: the divisor is not 0; numbers of at most 2^32 bits. The contracts of the program's gcd and sqrt. Condition: numbers of at most 2^31 bits. The contracts of the program's fits, and of its exported methods that return a number and an error. Condition: numbers of at most 2^30 bits. A row of numbers that grows by append: what it holds, and the law of one append. Condition: fewer than 2^40 numbers. The contracts of strings.Builder's copyCheck and WriteByte at this program. Condition: a builder of the call's own, fewer than 2^47 bytes.
-/
import Derived.Test.YtppbhjhbaknidaaZa
import Derived.Shelf.Strings.Builder1
import Derived.Shelf.Small.Bits
import Derived.Shelf.Strings.BuilderF
import Derived.Shelf.Strings.BuilderK
import Derived.Shelf.Strings.Search1
import Derived.Shelf.Strings.Search2
import Derived.Shelf.Strings.Cut
import Derived.Shelf.LaysM
import Derived.Shelf.Strings.Shaped
import Derived.Shelf.Strings.BuilderCap
import Derived.Test.YtppbhjhbaknidaaProg
import Derived.StillTailTactics
import Derived.Deep.LoopGhost
set_option linter.unusedVariables false
set_option linter.unusedSimpArgs false

/-
  DERIVED: THE SHELF's CONTRACTS AT THIS DUMP, IN PLAIN WORDS (tools/lay-plain.mjs out of 'TryShelf.lean', which tools/lay-shelf.mjs wrote): THE SAME DECLARATIONS UNDER THE SAME NAMES: 'import', 'namespace', 'open', 'def', 'theorem' AND NOTHING ELSE: no command of the shelf's: FOR A HAND-IN. Each laying: the table of numbers ('.._ren') and one theorem, a field a fact of the dump's own or the kernel's comparison; each contract: ONE APPLICATION.
-/
namespace Go.Proofs
open Go.Shelf
def Try.lays170_ren : Go.Shelf.Ren := ⟨fun | 170 => 115 | n => n, fun | 70 => 118 | 3 => 3 | 0 => 0 | 72 => 121 | 37 => 119 | 5 => 5 | n => n, fun | n => n⟩
theorem Try.lays170 : Go.Proofs.Lays.n170 Try.prog Try.lays170_ren := {
  mixed := by kernel_rfl
  f170 := Try.func115.trans (congrArg some (by kernel_rfl))
  t0 := Try.underlying0
  a0 := Try.isAgg0
  z0 := Try.sizeOf0
  v0 := Try.zeroValue0
  t3 := Try.underlying3
  a3 := Try.isAgg3
  z3 := Try.sizeOf3
  v3 := Try.zeroValue3
  t37 := Try.underlying119
  a37 := Try.isAgg119
  z37 := Try.sizeOf119
  v37 := Try.zeroValue119
  t70 := Try.underlying118
  a70 := Try.isAgg118
  z70 := Try.sizeOf118
  v70 := Try.zeroValue118
  t72 := Try.underlying121
  a72 := Try.isAgg121
  z72 := Try.sizeOf121
  v72 := Try.zeroValue121 }
open Go.RowKit in
/-- (*strings.Builder).Len: "Len returns the number of accumulated bytes; b.Len() == len(b.String()).": the world is as it was. (LAID: no walk: one application.) -/
theorem Try.Builder_Len (B b : Nat) (bs : List Value) (w : World) (h : Lib.IsBuilder 121 5 B b bs w) :
    Calls Try.prog 115 #[.pointer (some ⟨b, 0, none⟩)] w fun e w' => e = .returned (.int .i64 bs.length) ∧ w' = w := Any.Builder_Len Try.lays170 B b bs w h
def Try.lays169_ren : Go.Shelf.Ren := ⟨fun | 169 => 117 | n => n, fun | 70 => 118 | 9 => 9 | 0 => 0 | 72 => 121 | 37 => 119 | 127 => 136 | 3 => 3 | 5 => 5 | n => n, fun | n => n⟩
theorem Try.lays169 : Go.Proofs.Lays.n169 Try.prog Try.lays169_ren := {
  mixed := by kernel_rfl
  f169 := Try.func117.trans (congrArg some (by kernel_rfl))
  t0 := Try.underlying0
  a0 := Try.isAgg0
  z0 := Try.sizeOf0
  v0 := Try.zeroValue0
  t3 := Try.underlying3
  a3 := Try.isAgg3
  z3 := Try.sizeOf3
  v3 := Try.zeroValue3
  t9 := Try.underlying9
  a9 := Try.isAgg9
  z9 := Try.sizeOf9
  v9 := Try.zeroValue9
  t37 := Try.underlying119
  a37 := Try.isAgg119
  z37 := Try.sizeOf119
  v37 := Try.zeroValue119
  t70 := Try.underlying118
  a70 := Try.isAgg118
  z70 := Try.sizeOf118
  v70 := Try.zeroValue118
  t72 := Try.underlying121
  a72 := Try.isAgg121
  z72 := Try.sizeOf121
  v72 := Try.zeroValue121
  t127 := Try.underlying136
  a127 := Try.isAgg136
  z127 := Try.sizeOf136
  v127 := Try.zeroValue136 }
theorem Try.Builder_Extra_169 : Builder.Extra Try.prog Try.lays169_ren := {
  sizeBuilder := by kernel_rfl
  liesBuilder := by kernel_rfl
  t5 := Try.underlying5
  a5 := Try.isAgg5
  z5 := Try.sizeOf5
  v5 := Try.zeroValue5
  infoByte := by kernel_rfl
  cellsByte := by kernel_rfl
  sizeByte := by kernel_rfl
  neB5 := by decide }
open Go.RowKit in
/-- (*strings.Builder).String: "String returns the accumulated string.": OF A BUILDER THAT HOLDS AT LEAST ONE BYTE. ✋ THE MODEL FREEZES THOSE BYTES IN THE BUFFER (unsafe.String): a later write INTO them ends the model's run without an answer; a later append BEHIND them goes on. The statement's order of evaluation is drawn: one draw. (LAID: no walk: one application.) -/
theorem Try.Builder_String (B b : Nat) (l : List UInt8) (w : World) (h : Lib.IsBuilder 121 5 B b (Lib.byteCells l) w) (h0 : l ≠ []) :
    Calls Try.prog 117 #[.pointer (some ⟨b, 0, none⟩)] w fun e w' => e = .returned (.string ⟨l.toArray⟩) ∧ Below B w w' := Any.Builder_String Try.lays169 Try.Builder_Extra_169 B b l w h h0
open Go.RowKit in
/-- (*strings.Builder).String OF A BUILDER THAT HOLDS NO BYTE: the empty string. (Its buffer is nil, or a row of which it has taken nothing yet; where that row has NO capacity the model lays one new block for unsafe.SliceData's 'some address'.) One draw. (LAID: no walk: one application.) -/
theorem Try.Builder_String_empty (B b : Nat) (w : World) (h : Lib.IsBuilder 121 5 B b [] w) (hBw : B ≤ w.heap.size) :
    Calls Try.prog 117 #[.pointer (some ⟨b, 0, none⟩)] w fun e w' => e = .returned (.string ⟨#[]⟩) ∧ Below B w w' := Any.Builder_String_empty Try.lays169 Try.Builder_Extra_169 B b w h hBw
open Go.RowKit in
/-- (*strings.Builder).String: "String returns the accumulated string.": WHATEVER THE BUILDER HOLDS. (LAID: no walk: one application.) -/
theorem Try.Builder_String_any (B b : Nat) (l : List UInt8) (w : World) (h : Lib.IsBuilder 121 5 B b (Lib.byteCells l) w) (hBw : B ≤ w.heap.size) :
    Calls Try.prog 117 #[.pointer (some ⟨b, 0, none⟩)] w fun e w' => e = .returned (.string ⟨l.toArray⟩) ∧ Below B w w' := Any.Builder_String_any Try.lays169 Try.Builder_Extra_169 B b l w h hBw
def Try.lays128_ren : Go.Shelf.Ren := ⟨fun | 128 => 133 | n => n, fun | 51 => 115 | 3 => 3 | 4 => 4 | 46 => 126 | 5 => 5 | 9 => 9 | n => n, fun | n => n⟩
theorem Try.lays128 : Go.Proofs.Lays.n128 Try.prog Try.lays128_ren := {
  mixed := by kernel_rfl
  f128 := Try.func133.trans (congrArg some (by kernel_rfl))
  t3 := Try.underlying3
  a3 := Try.isAgg3
  z3 := Try.sizeOf3
  v3 := Try.zeroValue3
  t4 := Try.underlying4
  a4 := Try.isAgg4
  z4 := Try.sizeOf4
  v4 := Try.zeroValue4
  t5 := Try.underlying5
  a5 := Try.isAgg5
  z5 := Try.sizeOf5
  v5 := Try.zeroValue5
  t9 := Try.underlying9
  a9 := Try.isAgg9
  z9 := Try.sizeOf9
  v9 := Try.zeroValue9
  t46 := Try.underlying126
  a46 := Try.isAgg126
  z46 := Try.sizeOf126
  v46 := Try.zeroValue126
  t51 := Try.underlying115
  a51 := Try.isAgg115
  z51 := Try.sizeOf115
  v51 := Try.zeroValue115 }
/-- bits.Len32: "Len32 returns the minimum number of bits required to represent x; the result is 0 for x == 0.": IT RETURNS 'Lib.bitLen x'; the world is as it was. ('h0', 'h1': x is a uint32.) (LAID: no walk: one application.) -/
theorem Try.bits_Len32 (x : Int) (w : World) (h0 : 0 ≤ x) (h1 : x ≤ 4294967295) :
    Calls Try.prog 133 #[.int .u32 x] w fun e w' => e = .returned (.int .i64 (Lib.bitLen x.toNat)) ∧ w' = w := Any.bits_Len32 Try.lays128 x w h0 h1
def Try.lays133_ren : Go.Shelf.Ren := ⟨fun | 133 => 129 | 128 => 133 | n => n, fun | 51 => 115 | 3 => 3 | 4 => 4 | 46 => 126 | 5 => 5 | 9 => 9 | n => n, fun | n => n⟩
theorem Try.lays133 : Go.Proofs.Lays.n133 Try.prog Try.lays133_ren := {
  mixed := by kernel_rfl
  f128 := Try.func133.trans (congrArg some (by kernel_rfl))
  f133 := Try.func129.trans (congrArg some (by kernel_rfl))
  t3 := Try.underlying3
  a3 := Try.isAgg3
  z3 := Try.sizeOf3
  v3 := Try.zeroValue3
  t4 := Try.underlying4
  a4 := Try.isAgg4
  z4 := Try.sizeOf4
  v4 := Try.zeroValue4
  t5 := Try.underlying5
  a5 := Try.isAgg5
  z5 := Try.sizeOf5
  v5 := Try.zeroValue5
  t9 := Try.underlying9
  a9 := Try.isAgg9
  z9 := Try.sizeOf9
  v9 := Try.zeroValue9
  t46 := Try.underlying126
  a46 := Try.isAgg126
  z46 := Try.sizeOf126
  v46 := Try.zeroValue126
  t51 := Try.underlying115
  a51 := Try.isAgg115
  z51 := Try.sizeOf115
  v51 := Try.zeroValue115 }
/-- bits.LeadingZeros32: "LeadingZeros32 returns the number of leading zero bits in x; the result is 32 for x == 0.": IT RETURNS '32 - Lib.bitLen x'; the world is as it was. ITS CALLEE bits.Len32 IS MET BY ITS OWN CONTRACT OFF THE SHELF (lay that first): entered in place it sends the kernel out of memory. (LAID: no walk: one application.) -/
theorem Try.bits_LeadingZeros32 (x : Int) (w : World) (h0 : 0 ≤ x) (h1 : x ≤ 4294967295) :
    Calls Try.prog 129 #[.int .u32 x] w fun e w' => e = .returned (.int .i64 (32 - (Lib.bitLen x.toNat : Int))) ∧ w' = w := Any.bits_LeadingZeros32 Try.lays133 x w h0 h1
open Go.RowKit in
/-- (*strings.Builder).Len: "Len returns the number of accumulated bytes; b.Len() == len(b.String()).": the world is as it was. (THE FORM '_f': 'Lib.IsBuilderF'.) (LAID: no walk: one application.) -/
theorem Try.Builder_Len_f (B b : Nat) (bs : List Value) (w : World) (h : Lib.IsBuilderF 121 5 B b bs w) :
    Calls Try.prog 115 #[.pointer (some ⟨b, 0, none⟩)] w fun e w' => e = .returned (.int .i64 bs.length) ∧ w' = w := Any.Builder_Len_f Try.lays170 B b bs w h
open Go.RowKit in
/-- (*strings.Builder).String: "String returns the accumulated string.": OF A BUILDER THAT HOLDS AT LEAST ONE BYTE. ✋ THE MODEL FREEZES THOSE BYTES IN THE BUFFER (unsafe.String): a later write INTO them ends the model's run without an answer; a later append BEHIND them goes on. The statement's order of evaluation is drawn: one draw. THE FORM '_f': IT SAYS BESIDES THAT THE BUILDER IS A BUILDER STILL ('Lib.IsBuilderF', the same bytes): SO IT CAN BE WRITTEN ON: 'b.WriteString(b.String()[:k])'. (LAID: no walk: one application.) -/
theorem Try.Builder_String_f (B b : Nat) (l : List UInt8) (w : World) (h : Lib.IsBuilderF 121 5 B b (Lib.byteCells l) w) (h0 : l ≠ []) :
    Calls Try.prog 117 #[.pointer (some ⟨b, 0, none⟩)] w fun e w' => e = .returned (.string ⟨l.toArray⟩) ∧ (Lib.IsBuilderF 121 5 B b (Lib.byteCells l) w' ∧ Below B w w') := Any.Builder_String_f Try.lays169 Try.Builder_Extra_169 B b l w h h0
open Go.RowKit in
/-- (*strings.Builder).String OF A BUILDER THAT HOLDS NO BYTE: the empty string; THE FORM '_f': a builder still. (LAID: no walk: one application.) -/
theorem Try.Builder_String_empty_f (B b : Nat) (w : World) (h : Lib.IsBuilderF 121 5 B b [] w) (hBw : B ≤ w.heap.size) :
    Calls Try.prog 117 #[.pointer (some ⟨b, 0, none⟩)] w fun e w' => e = .returned (.string ⟨#[]⟩) ∧ (Lib.IsBuilderF 121 5 B b [] w' ∧ Below B w w') := Any.Builder_String_empty_f Try.lays169 Try.Builder_Extra_169 B b w h hBw
open Go.RowKit in
/-- (*strings.Builder).String: "String returns the accumulated string.": WHATEVER THE BUILDER HOLDS; THE FORM '_f': OF A BUILDER THAT MAY HAVE BEEN READ BEFORE; AND IT IS A BUILDER STILL, holding the same bytes: it can be written on. (LAID: no walk: one application.) -/
theorem Try.Builder_String_any_f (B b : Nat) (l : List UInt8) (w : World) (h : Lib.IsBuilderF 121 5 B b (Lib.byteCells l) w) (hBw : B ≤ w.heap.size) :
    Calls Try.prog 117 #[.pointer (some ⟨b, 0, none⟩)] w fun e w' => e = .returned (.string ⟨l.toArray⟩) ∧ (Lib.IsBuilderF 121 5 B b (Lib.byteCells l) w' ∧ Below B w w') := Any.Builder_String_any_f Try.lays169 Try.Builder_Extra_169 B b l w h hBw
open Go.RowKit in
/-- (*strings.Builder).String: "String returns the accumulated string.": OF A BUILDER THAT HOLDS AT LEAST ONE BYTE. ✋ THE MODEL FREEZES THOSE BYTES IN THE BUFFER (unsafe.String): a later write INTO them ends the model's run without an answer; a later append BEHIND them goes on. The statement's order of evaluation is drawn: one draw. THE FORM '_k': OVER 'Lib.IsBuilderF' (a builder that 'String()' may have read), AND WITH THE FRAME THAT REACHES ABOVE THE BUILDER: 'Lib.OthersKept': every block that is not b and is no row of uint8's stands as it stood: the iterator of a range among them. (LAID: no walk: one application.) -/
theorem Try.Builder_String_k (B b : Nat) (l : List UInt8) (w : World) (h : Lib.IsBuilderF 121 5 B b (Lib.byteCells l) w) (h0 : l ≠ []) :
    Calls Try.prog 117 #[.pointer (some ⟨b, 0, none⟩)] w fun e w' => e = .returned (.string ⟨l.toArray⟩) ∧ (Lib.IsBuilderF 121 5 B b (Lib.byteCells l) w' ∧ Below B w w' ∧ Lib.OthersKept 5 (some b) w w') := Any.Builder_String_k Try.lays169 Try.Builder_Extra_169 B b l w h h0
open Go.RowKit in
/-- (*strings.Builder).String OF A BUILDER THAT HOLDS NO BYTE: the empty string; THE FORM '_k': OVER 'Lib.IsBuilderF' (a builder that 'String()' may have read), AND WITH THE FRAME THAT REACHES ABOVE THE BUILDER: 'Lib.OthersKept': every block that is not b and is no row of uint8's stands as it stood: the iterator of a range among them. (LAID: no walk: one application.) -/
theorem Try.Builder_String_empty_k (B b : Nat) (w : World) (h : Lib.IsBuilderF 121 5 B b [] w) (hBw : B ≤ w.heap.size) :
    Calls Try.prog 117 #[.pointer (some ⟨b, 0, none⟩)] w fun e w' => e = .returned (.string ⟨#[]⟩) ∧ (Lib.IsBuilderF 121 5 B b [] w' ∧ Below B w w' ∧ Lib.OthersKept 5 (some b) w w') := Any.Builder_String_empty_k Try.lays169 Try.Builder_Extra_169 B b w h hBw
open Go.RowKit in
/-- (*strings.Builder).String: "String returns the accumulated string.": WHATEVER THE BUILDER HOLDS; THE FORM '_k': OVER 'Lib.IsBuilderF' (a builder that 'String()' may have read), AND WITH THE FRAME THAT REACHES ABOVE THE BUILDER: 'Lib.OthersKept': every block that is not b and is no row of uint8's stands as it stood: the iterator of a range among them. (LAID: no walk: one application.) -/
theorem Try.Builder_String_any_k (B b : Nat) (l : List UInt8) (w : World) (h : Lib.IsBuilderF 121 5 B b (Lib.byteCells l) w) (hBw : B ≤ w.heap.size) :
    Calls Try.prog 117 #[.pointer (some ⟨b, 0, none⟩)] w fun e w' => e = .returned (.string ⟨l.toArray⟩) ∧ (Lib.IsBuilderF 121 5 B b (Lib.byteCells l) w' ∧ Below B w w' ∧ Lib.OthersKept 5 (some b) w w') := Any.Builder_String_any_k Try.lays169 Try.Builder_Extra_169 B b l w h hBw
def Try.lays217_ren : Go.Shelf.Ren := ⟨fun | 217 => 138 | 266 => 142 | n => n, fun | 9 => 9 | 5 => 5 | 3 => 3 | n => n, fun | n => n⟩
theorem Try.lays217 : Go.Proofs.Lays.n217 Try.prog Try.lays217_ren := {
  mixed := by kernel_rfl
  f217 := Try.func138.trans (congrArg some (by kernel_rfl))
  f266 := Try.func142.trans (congrArg some (by kernel_rfl))
  t3 := Try.underlying3
  a3 := Try.isAgg3
  z3 := Try.sizeOf3
  v3 := Try.zeroValue3
  t5 := Try.underlying5
  a5 := Try.isAgg5
  z5 := Try.sizeOf5
  v5 := Try.zeroValue5
  t9 := Try.underlying9
  a9 := Try.isAgg9
  z9 := Try.sizeOf9
  v9 := Try.zeroValue9 }
open Go.RowKit Go.Lib in
/-- internal/stringslite.IndexByte (what strings.IndexByte calls): IT RETURNS 'Lib.indexByte s c'; the world is as it was. (LAID: no walk: one application.) -/
theorem Try.stringslite_IndexByte (s : ByteArray) (c : Int) (w : World) :
    Calls Try.prog 138 #[.string s, .int .u8 c] w fun e w' => e = .returned (.int .i64 (Lib.indexByte s.data.toList c.toNat.toUInt8)) ∧ w' = w := Any.stringslite_IndexByte Try.lays217 s c w
def Try.lays224_ren : Go.Shelf.Ren := ⟨fun | 224 => 140 | n => n, fun | 3 => 3 | n => n, fun | n => n⟩
theorem Try.lays224 : Go.Proofs.Lays.n224 Try.prog Try.lays224_ren := {
  mixed := by kernel_rfl
  f224 := Try.func140.trans (congrArg some (by kernel_rfl))
  t3 := Try.underlying3
  a3 := Try.isAgg3
  z3 := Try.sizeOf3
  v3 := Try.zeroValue3 }
open Go.RowKit Go.Lib in
/-- internal/bytealg.Cutover: "Cutover reports the number of failures of IndexByte we should tolerate before switching over to Index. n is the number of bytes processed so far.": on amd64: (n + 16) / 8. (LAID: no walk: one application.) -/
theorem Try.bytealg_Cutover (n : Int) (h0 : 0 ≤ n) (h1 : n < 4611686018427387904) (w : World) :
    Calls Try.prog 140 #[.int .i64 n] w fun e w' => e = .returned (.int .i64 ((n + 16) / 8)) ∧ w' = w := Any.bytealg_Cutover Try.lays224 n h0 h1 w
def Try.lays314_ren : Go.Shelf.Ren := ⟨fun | 314 => 143 | n => n, fun | 9 => 9 | 51 => 115 | 3 => 3 | 4 => 4 | 5 => 5 | 46 => 126 | n => n, fun | n => n⟩
theorem Try.lays314 : Go.Proofs.Lays.n314 Try.prog Try.lays314_ren := {
  mixed := by kernel_rfl
  f314 := Try.func143.trans (congrArg some (by kernel_rfl))
  t3 := Try.underlying3
  a3 := Try.isAgg3
  z3 := Try.sizeOf3
  v3 := Try.zeroValue3
  t4 := Try.underlying4
  a4 := Try.isAgg4
  z4 := Try.sizeOf4
  v4 := Try.zeroValue4
  t5 := Try.underlying5
  a5 := Try.isAgg5
  z5 := Try.sizeOf5
  v5 := Try.zeroValue5
  t9 := Try.underlying9
  a9 := Try.isAgg9
  z9 := Try.sizeOf9
  v9 := Try.zeroValue9
  t46 := Try.underlying126
  a46 := Try.isAgg126
  z46 := Try.sizeOf126
  v46 := Try.zeroValue126
  t51 := Try.underlying115
  a51 := Try.isAgg115
  z51 := Try.sizeOf115
  v51 := Try.zeroValue115 }
open Go.RowKit Go.Lib in
/-- hashStr: "returns the hash and the appropriate multiplicative factor for use in Rabin-Karp algorithm": THE HASH OF ALL OF sep, AND 16777619 ^ len(sep), both in uint32. (LAID: no walk: one application.) -/
theorem Try.bytealg_hashStr (sep : ByteArray) (hs : sep.size < 4294967281) (w : World) :
    Calls Try.prog 143 #[.string sep] w fun e w' => e = .returned (.tuple #[.int .u32 (RK.H sep.data.toList % 4294967296), .int .u32 (16777619 ^ sep.size % 4294967296)]) ∧ w' = w := Any.bytealg_hashStr Try.lays314 sep hs w
def Try.lays267_ren : Go.Shelf.Ren := ⟨fun | 267 => 141 | 314 => 143 | n => n, fun | 9 => 9 | 3 => 3 | 146 => 142 | 51 => 115 | 4 => 4 | 5 => 5 | 46 => 126 | n => n, fun | n => n⟩
theorem Try.lays267 : Go.Proofs.Lays.n267 Try.prog Try.lays267_ren := {
  mixed := by kernel_rfl
  f267 := Try.func141.trans (congrArg some (by kernel_rfl))
  f314 := Try.func143.trans (congrArg some (by kernel_rfl))
  t3 := Try.underlying3
  a3 := Try.isAgg3
  z3 := Try.sizeOf3
  v3 := Try.zeroValue3
  t4 := Try.underlying4
  a4 := Try.isAgg4
  z4 := Try.sizeOf4
  v4 := Try.zeroValue4
  t5 := Try.underlying5
  a5 := Try.isAgg5
  z5 := Try.sizeOf5
  v5 := Try.zeroValue5
  t9 := Try.underlying9
  a9 := Try.isAgg9
  z9 := Try.sizeOf9
  v9 := Try.zeroValue9
  t46 := Try.underlying126
  a46 := Try.isAgg126
  z46 := Try.sizeOf126
  v46 := Try.zeroValue126
  t51 := Try.underlying115
  a51 := Try.isAgg115
  z51 := Try.sizeOf115
  v51 := Try.zeroValue115
  t146 := Try.underlying142
  a146 := Try.isAgg142
  z146 := Try.sizeOf142
  v146 := Try.zeroValue142 }
open Go.RowKit Go.Lib in
theorem Try.bytealg_IndexRabinKarp (s sep : ByteArray) (h1 : 1 ≤ sep.size) (h2 : sep.size ≤ s.size) (hs : s.size < 4294967281) (w : World) :
    Calls Try.prog 141 #[.string s, .string sep] w fun e w' => e = .returned (.int .i64 (Lib.index s.data.toList sep.data.toList)) ∧ w' = w := Any.bytealg_IndexRabinKarp Try.lays267 s sep h1 h2 hs w
def Try.lays219_ren : Go.Shelf.Ren := ⟨fun | 219 => 137 | 217 => 138 | 225 => 139 | 224 => 140 | 267 => 141 | 266 => 142 | 314 => 143 | n => n, fun | 9 => 9 | 3 => 3 | 4 => 4 | 5 => 5 | 46 => 126 | 146 => 142 | 51 => 115 | n => n, fun | 1 => 0 | n => n⟩
theorem Try.lays219 : Go.Proofs.Lays.n219 Try.prog Try.lays219_ren := {
  mixed := by kernel_rfl
  f217 := Try.func138.trans (congrArg some (by kernel_rfl))
  f219 := Try.func137.trans (congrArg some (by kernel_rfl))
  f224 := Try.func140.trans (congrArg some (by kernel_rfl))
  f225 := Try.func139.trans (congrArg some (by kernel_rfl))
  f266 := Try.func142.trans (congrArg some (by kernel_rfl))
  f267 := Try.func141.trans (congrArg some (by kernel_rfl))
  f314 := Try.func143.trans (congrArg some (by kernel_rfl))
  t3 := Try.underlying3
  a3 := Try.isAgg3
  z3 := Try.sizeOf3
  v3 := Try.zeroValue3
  t4 := Try.underlying4
  a4 := Try.isAgg4
  z4 := Try.sizeOf4
  v4 := Try.zeroValue4
  t5 := Try.underlying5
  a5 := Try.isAgg5
  z5 := Try.sizeOf5
  v5 := Try.zeroValue5
  t9 := Try.underlying9
  a9 := Try.isAgg9
  z9 := Try.sizeOf9
  v9 := Try.zeroValue9
  t46 := Try.underlying126
  a46 := Try.isAgg126
  z46 := Try.sizeOf126
  v46 := Try.zeroValue126
  t51 := Try.underlying115
  a51 := Try.isAgg115
  z51 := Try.sizeOf115
  v51 := Try.zeroValue115
  t146 := Try.underlying142
  a146 := Try.isAgg142
  z146 := Try.sizeOf142
  v146 := Try.zeroValue142
  g1 := by kernel_rfl }
open Go.RowKit Go.Lib in
/-- internal/stringslite.Index (what strings.Index calls) AT A substr OF ONE BYTE c: IT RETURNS 'Lib.indexByte s c'; the world is as it was. (LAID: no walk: one application.) -/
theorem Try.stringslite_Index_one (s : ByteArray) (c : UInt8) (w : World) :
    Calls Try.prog 137 #[.string s, .string ⟨#[c]⟩] w fun e w' => e = .returned (.int .i64 (Lib.indexByte s.data.toList c)) ∧ w' = w := Any.stringslite_Index_one Try.lays219 s c w
open Go.RowKit Go.Lib in
/-- internal/stringslite.Index (what strings.Index calls) AT A substr OF WHATEVER LENGTH: IT RETURNS 'Lib.index s substr'; the world is as it was. 'm': what internal/bytealg.MaxLen holds: whatever. (LAID: no walk: one application.) -/
theorem Try.stringslite_Index (s sub : ByteArray) (m : Int) (w : World) (hs : s.size < 4294967281) (hm : w.cell? ⟨0, 0, none⟩ = some (.int .i64 m)) :
    Calls Try.prog 137 #[.string s, .string sub] w fun e w' => e = .returned (.int .i64 (Lib.index s.data.toList sub.data.toList)) ∧ w' = w := Any.stringslite_Index Try.lays219 s sub m w hs hm
def Try.lays220_ren : Go.Shelf.Ren := ⟨fun | 220 => 135 | 219 => 137 | 217 => 138 | 225 => 139 | 224 => 140 | 267 => 141 | 266 => 142 | 314 => 143 | n => n, fun | 9 => 9 | 4 => 4 | 3 => 3 | 5 => 5 | 46 => 126 | 146 => 142 | 51 => 115 | n => n, fun | 1 => 0 | n => n⟩
theorem Try.lays220 : Go.Proofs.Lays.n220 Try.prog Try.lays220_ren := {
  mixed := by kernel_rfl
  f217 := Try.func138.trans (congrArg some (by kernel_rfl))
  f219 := Try.func137.trans (congrArg some (by kernel_rfl))
  f220 := Try.func135.trans (congrArg some (by kernel_rfl))
  f224 := Try.func140.trans (congrArg some (by kernel_rfl))
  f225 := Try.func139.trans (congrArg some (by kernel_rfl))
  f266 := Try.func142.trans (congrArg some (by kernel_rfl))
  f267 := Try.func141.trans (congrArg some (by kernel_rfl))
  f314 := Try.func143.trans (congrArg some (by kernel_rfl))
  t3 := Try.underlying3
  a3 := Try.isAgg3
  z3 := Try.sizeOf3
  v3 := Try.zeroValue3
  t4 := Try.underlying4
  a4 := Try.isAgg4
  z4 := Try.sizeOf4
  v4 := Try.zeroValue4
  t5 := Try.underlying5
  a5 := Try.isAgg5
  z5 := Try.sizeOf5
  v5 := Try.zeroValue5
  t9 := Try.underlying9
  a9 := Try.isAgg9
  z9 := Try.sizeOf9
  v9 := Try.zeroValue9
  t46 := Try.underlying126
  a46 := Try.isAgg126
  z46 := Try.sizeOf126
  v46 := Try.zeroValue126
  t51 := Try.underlying115
  a51 := Try.isAgg115
  z51 := Try.sizeOf115
  v51 := Try.zeroValue115
  t146 := Try.underlying142
  a146 := Try.isAgg142
  z146 := Try.sizeOf142
  v146 := Try.zeroValue142
  g1 := by kernel_rfl }
open Go.RowKit Go.Lib in
/-- internal/stringslite.Cut (what strings.Cut calls): IT RETURNS 'Lib.cut s sep'; the world is as it was but for the count of draws. (LAID: no walk: one application.) -/
theorem Try.stringslite_Cut (s sep : ByteArray) (m : Int) (w : World) (hs : s.size < 4294967281) (hm : w.cell? ⟨0, 0, none⟩ = some (.int .i64 m)) :
    Calls Try.prog 135 #[.string s, .string sep] w fun e w' => e = .returned (.tuple #[.string ⟨(Lib.cut s.data.toList sep.data.toList).1.toArray⟩, .string ⟨(Lib.cut s.data.toList sep.data.toList).2.1.toArray⟩, .bool (Lib.cut s.data.toList sep.data.toList).2.2]) ∧ ∃ n, w' = w.drewN n := Any.stringslite_Cut Try.lays220 s sep m w hs hm
def Try.lays145_ren : Go.Shelf.Ren := ⟨fun | 145 => 125 | 220 => 135 | 219 => 137 | 217 => 138 | 225 => 139 | 224 => 140 | 267 => 141 | 266 => 142 | 314 => 143 | n => n, fun | 9 => 9 | 4 => 4 | 59 => 131 | 3 => 3 | 5 => 5 | 46 => 126 | 146 => 142 | 51 => 115 | n => n, fun | 1 => 0 | n => n⟩
theorem Try.lays145 : Go.Proofs.Lays.n145 Try.prog Try.lays145_ren := {
  mixed := by kernel_rfl
  f145 := Try.func125.trans (congrArg some (by kernel_rfl))
  f217 := Try.func138.trans (congrArg some (by kernel_rfl))
  f219 := Try.func137.trans (congrArg some (by kernel_rfl))
  f220 := Try.func135.trans (congrArg some (by kernel_rfl))
  f224 := Try.func140.trans (congrArg some (by kernel_rfl))
  f225 := Try.func139.trans (congrArg some (by kernel_rfl))
  f266 := Try.func142.trans (congrArg some (by kernel_rfl))
  f267 := Try.func141.trans (congrArg some (by kernel_rfl))
  f314 := Try.func143.trans (congrArg some (by kernel_rfl))
  t3 := Try.underlying3
  a3 := Try.isAgg3
  z3 := Try.sizeOf3
  v3 := Try.zeroValue3
  t4 := Try.underlying4
  a4 := Try.isAgg4
  z4 := Try.sizeOf4
  v4 := Try.zeroValue4
  t5 := Try.underlying5
  a5 := Try.isAgg5
  z5 := Try.sizeOf5
  v5 := Try.zeroValue5
  t9 := Try.underlying9
  a9 := Try.isAgg9
  z9 := Try.sizeOf9
  v9 := Try.zeroValue9
  t46 := Try.underlying126
  a46 := Try.isAgg126
  z46 := Try.sizeOf126
  v46 := Try.zeroValue126
  t51 := Try.underlying115
  a51 := Try.isAgg115
  z51 := Try.sizeOf115
  v51 := Try.zeroValue115
  t59 := Try.underlying131
  a59 := Try.isAgg131
  z59 := Try.sizeOf131
  v59 := Try.zeroValue131
  t146 := Try.underlying142
  a146 := Try.isAgg142
  z146 := Try.sizeOf142
  v146 := Try.zeroValue142
  g1 := by kernel_rfl }
open Go.RowKit Go.Lib in
/-- strings.Cut: "Cut slices s around the first instance of sep, returning the text before and after sep. The found result reports whether sep appears in s. If sep does not appear in s, cut returns s, "", false.": IT RETURNS 'Lib.cut s sep'; the world is as it was but for the count of draws. (LAID: no walk: one application.) -/
theorem Try.strings_Cut (s sep : ByteArray) (m : Int) (w : World) (hs : s.size < 4294967281) (hm : w.cell? ⟨0, 0, none⟩ = some (.int .i64 m)) :
    Calls Try.prog 125 #[.string s, .string sep] w fun e w' => e = .returned (.tuple #[.string ⟨(Lib.cut s.data.toList sep.data.toList).1.toArray⟩, .string ⟨(Lib.cut s.data.toList sep.data.toList).2.1.toArray⟩, .bool (Lib.cut s.data.toList sep.data.toList).2.2]) ∧ ∃ n, w' = w.drewN n := Any.strings_Cut Try.lays145 s sep m w hs hm
def Try.laysM219_ren : Go.Shelf.Ren := ⟨fun | 219 => 137 | 217 => 138 | 225 => 139 | 224 => 140 | 267 => 141 | 266 => 142 | 314 => 143 | n => n, fun | 9 => 9 | 3 => 3 | 4 => 4 | 5 => 5 | 46 => 126 | 146 => 142 | 51 => 115 | n => n, fun | 1 => 0 | n => n⟩
theorem Try.laysM219 : Go.Proofs.LaysM.n219 Try.prog Try.laysM219_ren := {
  mixed := by kernel_rfl
  f217 := Try.func138.trans (congrArg some (by kernel_rfl))
  f219 := Try.func137.trans (congrArg some (by kernel_rfl))
  f224 := Try.func140.trans (congrArg some (by kernel_rfl))
  f225 := Try.func139.trans (congrArg some (by kernel_rfl))
  f266 := Try.func142.trans (congrArg some (by kernel_rfl))
  f267 := Try.func141.trans (congrArg some (by kernel_rfl))
  f314 := Try.func143.trans (congrArg some (by kernel_rfl))
  t3 := Try.underlying3
  a3 := Try.isAgg3
  z3 := Try.sizeOf3
  v3 := Try.zeroValue3
  t4 := Try.underlying4
  a4 := Try.isAgg4
  z4 := Try.sizeOf4
  v4 := Try.zeroValue4
  t5 := Try.underlying5
  a5 := Try.isAgg5
  z5 := Try.sizeOf5
  v5 := Try.zeroValue5
  t9 := Try.underlying9
  a9 := Try.isAgg9
  z9 := Try.sizeOf9
  v9 := Try.zeroValue9
  t46 := Try.underlying126
  a46 := Try.isAgg126
  z46 := Try.sizeOf126
  v46 := Try.zeroValue126
  t51 := Try.underlying115
  a51 := Try.isAgg115
  z51 := Try.sizeOf115
  v51 := Try.zeroValue115
  t146 := Try.underlying142
  a146 := Try.isAgg142
  z146 := Try.sizeOf142
  v146 := Try.zeroValue142
  g1 := by kernel_rfl
  i3 := by kernel_rfl
  i4 := by kernel_rfl
  i5 := by kernel_rfl
  i9 := by kernel_rfl
  i46 := by kernel_rfl
  i51 := by kernel_rfl
  i146 := by kernel_rfl
  m1 := by kernel_rfl
  s1_3 := fun w h => Go.Proofs.cell_of_shapedOpen_int (zero := #[.int .i64 0]) (t := 3) h (of_decide_eq_true (by kernel_rfl)) (by kernel_rfl) rfl (by kernel_rfl) (by kernel_rfl) Try.underlying3 }
open Go.RowKit Go.Lib in
theorem Try.stringslite_Index_shaped (s sub : ByteArray) (w : World) (h : w.ShapedOpen Try.prog) (hs : s.size < 4294967281) :
    Calls Try.prog 137 #[.string s, .string sub] w fun e w' => e = .returned (.int .i64 (Lib.index s.data.toList sub.data.toList)) ∧ w' = w := Any.stringslite_Index_shaped Try.laysM219 s sub w h hs
def Try.laysM220_ren : Go.Shelf.Ren := ⟨fun | 220 => 135 | 219 => 137 | 217 => 138 | 225 => 139 | 224 => 140 | 267 => 141 | 266 => 142 | 314 => 143 | n => n, fun | 9 => 9 | 4 => 4 | 3 => 3 | 5 => 5 | 46 => 126 | 146 => 142 | 51 => 115 | n => n, fun | 1 => 0 | n => n⟩
theorem Try.laysM220 : Go.Proofs.LaysM.n220 Try.prog Try.laysM220_ren := {
  mixed := by kernel_rfl
  f217 := Try.func138.trans (congrArg some (by kernel_rfl))
  f219 := Try.func137.trans (congrArg some (by kernel_rfl))
  f220 := Try.func135.trans (congrArg some (by kernel_rfl))
  f224 := Try.func140.trans (congrArg some (by kernel_rfl))
  f225 := Try.func139.trans (congrArg some (by kernel_rfl))
  f266 := Try.func142.trans (congrArg some (by kernel_rfl))
  f267 := Try.func141.trans (congrArg some (by kernel_rfl))
  f314 := Try.func143.trans (congrArg some (by kernel_rfl))
  t3 := Try.underlying3
  a3 := Try.isAgg3
  z3 := Try.sizeOf3
  v3 := Try.zeroValue3
  t4 := Try.underlying4
  a4 := Try.isAgg4
  z4 := Try.sizeOf4
  v4 := Try.zeroValue4
  t5 := Try.underlying5
  a5 := Try.isAgg5
  z5 := Try.sizeOf5
  v5 := Try.zeroValue5
  t9 := Try.underlying9
  a9 := Try.isAgg9
  z9 := Try.sizeOf9
  v9 := Try.zeroValue9
  t46 := Try.underlying126
  a46 := Try.isAgg126
  z46 := Try.sizeOf126
  v46 := Try.zeroValue126
  t51 := Try.underlying115
  a51 := Try.isAgg115
  z51 := Try.sizeOf115
  v51 := Try.zeroValue115
  t146 := Try.underlying142
  a146 := Try.isAgg142
  z146 := Try.sizeOf142
  v146 := Try.zeroValue142
  g1 := by kernel_rfl
  i3 := by kernel_rfl
  i4 := by kernel_rfl
  i5 := by kernel_rfl
  i9 := by kernel_rfl
  i46 := by kernel_rfl
  i51 := by kernel_rfl
  i146 := by kernel_rfl
  m1 := by kernel_rfl
  s1_3 := fun w h => Go.Proofs.cell_of_shapedOpen_int (zero := #[.int .i64 0]) (t := 3) h (of_decide_eq_true (by kernel_rfl)) (by kernel_rfl) rfl (by kernel_rfl) (by kernel_rfl) Try.underlying3 }
open Go.RowKit Go.Lib in
theorem Try.stringslite_Cut_shaped (s sep : ByteArray) (w : World) (h : w.ShapedOpen Try.prog) (hs : s.size < 4294967281) :
    Calls Try.prog 135 #[.string s, .string sep] w fun e w' => e = .returned (.tuple #[.string ⟨(Lib.cut s.data.toList sep.data.toList).1.toArray⟩, .string ⟨(Lib.cut s.data.toList sep.data.toList).2.1.toArray⟩, .bool (Lib.cut s.data.toList sep.data.toList).2.2]) ∧ ∃ n, w' = w.drewN n := Any.stringslite_Cut_shaped Try.laysM220 s sep w h hs
def Try.laysM145_ren : Go.Shelf.Ren := ⟨fun | 145 => 125 | 220 => 135 | 219 => 137 | 217 => 138 | 225 => 139 | 224 => 140 | 267 => 141 | 266 => 142 | 314 => 143 | n => n, fun | 9 => 9 | 4 => 4 | 59 => 131 | 3 => 3 | 5 => 5 | 46 => 126 | 146 => 142 | 51 => 115 | n => n, fun | 1 => 0 | n => n⟩
theorem Try.laysM145 : Go.Proofs.LaysM.n145 Try.prog Try.laysM145_ren := {
  mixed := by kernel_rfl
  f145 := Try.func125.trans (congrArg some (by kernel_rfl))
  f217 := Try.func138.trans (congrArg some (by kernel_rfl))
  f219 := Try.func137.trans (congrArg some (by kernel_rfl))
  f220 := Try.func135.trans (congrArg some (by kernel_rfl))
  f224 := Try.func140.trans (congrArg some (by kernel_rfl))
  f225 := Try.func139.trans (congrArg some (by kernel_rfl))
  f266 := Try.func142.trans (congrArg some (by kernel_rfl))
  f267 := Try.func141.trans (congrArg some (by kernel_rfl))
  f314 := Try.func143.trans (congrArg some (by kernel_rfl))
  t3 := Try.underlying3
  a3 := Try.isAgg3
  z3 := Try.sizeOf3
  v3 := Try.zeroValue3
  t4 := Try.underlying4
  a4 := Try.isAgg4
  z4 := Try.sizeOf4
  v4 := Try.zeroValue4
  t5 := Try.underlying5
  a5 := Try.isAgg5
  z5 := Try.sizeOf5
  v5 := Try.zeroValue5
  t9 := Try.underlying9
  a9 := Try.isAgg9
  z9 := Try.sizeOf9
  v9 := Try.zeroValue9
  t46 := Try.underlying126
  a46 := Try.isAgg126
  z46 := Try.sizeOf126
  v46 := Try.zeroValue126
  t51 := Try.underlying115
  a51 := Try.isAgg115
  z51 := Try.sizeOf115
  v51 := Try.zeroValue115
  t59 := Try.underlying131
  a59 := Try.isAgg131
  z59 := Try.sizeOf131
  v59 := Try.zeroValue131
  t146 := Try.underlying142
  a146 := Try.isAgg142
  z146 := Try.sizeOf142
  v146 := Try.zeroValue142
  g1 := by kernel_rfl
  i3 := by kernel_rfl
  i4 := by kernel_rfl
  i5 := by kernel_rfl
  i9 := by kernel_rfl
  i46 := by kernel_rfl
  i51 := by kernel_rfl
  i59 := by kernel_rfl
  i146 := by kernel_rfl
  m1 := by kernel_rfl
  s1_3 := fun w h => Go.Proofs.cell_of_shapedOpen_int (zero := #[.int .i64 0]) (t := 3) h (of_decide_eq_true (by kernel_rfl)) (by kernel_rfl) rfl (by kernel_rfl) (by kernel_rfl) Try.underlying3 }
open Go.RowKit Go.Lib in
theorem Try.strings_Cut_shaped (s sep : ByteArray) (w : World) (h : w.ShapedOpen Try.prog) (hs : s.size < 4294967281) :
    Calls Try.prog 125 #[.string s, .string sep] w fun e w' => e = .returned (.tuple #[.string ⟨(Lib.cut s.data.toList sep.data.toList).1.toArray⟩, .string ⟨(Lib.cut s.data.toList sep.data.toList).2.1.toArray⟩, .bool (Lib.cut s.data.toList sep.data.toList).2.2]) ∧ ∃ n, w' = w.drewN n := Any.strings_Cut_shaped Try.laysM145 s sep w h hs
end Go.Proofs

/-
  The contracts of the program's words and bitLen: the words of a number of 64 bits; the bit length. Condition: numbers of at most 2^33 bits.
-/
namespace Go.Proofs.Ytppbhjhbaknidaa
open Go.RowKit

/-- The bit length. -/
def blen (n : Nat) : Nat := if n = 0 then 0 else n.log2 + 1

theorem blen_le {n k : Nat} : blen n ≤ k ↔ n < P2 k := by
  unfold blen P2
  by_cases h : n = 0
  · simp [h]; exact Nat.pow_pos (by omega)
  · rw [if_neg h, Nat.succ_le_iff]; exact Nat.log2_lt h

theorem lt_blen {n : Nat} : n < P2 (blen n) := blen_le.1 (Nat.le_refl _)

theorem blen_eq {n k : Nat} (h1 : n < P2 (k + 1)) (h2 : P2 k ≤ n) : blen n = k + 1 := by
  have a := blen_le.2 h1
  have b : ¬ blen n ≤ k := fun h => by have := blen_le.1 h; omega
  omega

theorem bitLenAux_lt (f : Nat) : ∀ x, x < 2 ^ f → ∀ k, Lib.bitLenAux f x ≤ k ↔ x < 2 ^ k := by
  induction f with
  | zero => intro x hx k; have : x = 0 := by omega
            subst this; simp [Lib.bitLenAux]; exact Nat.pow_pos (by omega)
  | succ f ih =>
    intro x hx k
    rw [Lib.bitLenAux]
    by_cases h : x = 0
    · simp [h]; exact Nat.pow_pos (by omega)
    · rw [if_neg h]
      cases k with
      | zero => simp; omega
      | succ k =>
        have hx2 : x / 2 < 2 ^ f := by rw [Nat.pow_succ] at hx; omega
        have := ih (x / 2) hx2 k
        rw [Nat.pow_succ]
        omega

theorem bitLen_eq {x : Nat} (h : x < 2 ^ 64) : Lib.bitLen x = blen x := by
  have a := bitLenAux_lt 64 x h
  have b1 : Lib.bitLen x ≤ blen x := (a _).2 lt_blen
  have b2 : blen x ≤ Lib.bitLen x := blen_le.2 ((a _).1 (Nat.le_refl _))
  omega

theorem blen_top {xs : List Nat} (h : Can 4294967296 xs) (hn : xs ≠ []) : blen (val 4294967296 xs) = 32 * (xs.length - 1) + blen (nth xs (xs.length - 1)) ∧ 1 ≤ blen (nth xs (xs.length - 1)) ∧ blen (nth xs (xs.length - 1)) ≤ 32 := by
  have hl : 0 < xs.length := List.length_pos_iff.2 hn
  have e := val_take_drop 4294967296 xs (xs.length - 1) (by omega)
  have e2 : xs.drop (xs.length - 1) = [nth xs (xs.length - 1)] := by
    apply List.ext_getElem
    · simp; omega
    · intro i h1 h2
      simp at h1 h2
      have : i = 0 := by omega
      subst this
      rw [List.getElem_drop, List.getElem_singleton, nth_lt (by omega)]; rfl
  rw [e2] at e
  simp only [val, Nat.mul_zero, Nat.add_zero] at e
  have b1 := val_lt (h.1.take (xs.length - 1))
  rw [List.length_take, Nat.min_eq_left (by omega)] at b1
  have hg := h.ge hn
  have hd := h.1.nth (by omega) (xs.length - 1)
  rw [P2_32] at e b1 hg
  generalize nth xs (xs.length - 1) = d at *
  generalize val 4294967296 (xs.take (xs.length - 1)) = r at *
  generalize 32 * (xs.length - 1) = p at *
  have hd0 : d ≠ 0 := by intro h0; subst h0; omega
  have hb : 1 ≤ blen d := by
    have : ¬ blen d ≤ 0 := fun h => by have := blen_le.1 h; unfold P2 at this; omega
    omega
  have hb32 : blen d ≤ 32 := blen_le.2 (by unfold P2; omega)
  obtain ⟨q, hq⟩ : ∃ q, blen d = q + 1 := ⟨blen d - 1, by omega⟩
  have h1 : d < P2 (q + 1) := by rw [← hq]; exact lt_blen
  have h2 : P2 q ≤ d := by
    have : ¬ blen d ≤ q := by omega
    have := mt blen_le.2 this
    omega
  refine ⟨?_, hb, hb32⟩
  rw [hq, ← Nat.add_assoc]
  apply blen_eq
  · rw [Nat.add_assoc, P2_add, e]
    have : P2 p * (d + 1) ≤ P2 p * P2 (q + 1) := Nat.mul_le_mul_left _ h1
    rw [Nat.mul_add] at this
    omega
  · rw [P2_add, e]
    have : P2 p * P2 q ≤ P2 p * d := Nat.mul_le_mul_left _ h2
    omega

set_option maxHeartbeats 400000 in
theorem bitLen_any {w : World} {v : Value} {n : Nat} (ha : IsN w v n) (L : Nat) (hL : L ≤ 8589934592) (hn : n < P2 L) :
    Calls Try.prog 118 #[v] w (fun e w' => e = .returned (.int .i64 (blen n)) ∧ w' = w) := by
  obtain ⟨xs, ha, hca, rfl⟩ := ha
  have l1 := hca.len_P2 hn
  obtain ⟨ao, k, cap, b, off, rfl, hs⟩ := ha
  rw [hs.len] at l1
  have hle := hs.le
  have hmax := hs.max
  by_cases h0 : k = 0
  · have hx : xs = [] := List.eq_nil_of_length_eq_zero (by rw [hs.len, h0])
    have hb : ((k : Int) == 0) = true := by simp [h0]
    subst hx
    go_enter Try.func118, Try.ntmps118
    go_wp2
    go_ret
    exact ⟨rfl, rfl⟩
  · have hb : ((k : Int) == 0) = false := by simp [h0]
    obtain ⟨ht1, ht2, ht3⟩ := blen_top hca (fun h => h0 (by rw [← hs.len, h]; rfl))
    have hd := hca.1.nth (by omega) (xs.length - 1)
    rw [hs.len] at ht1 ht2 ht3 hd
    have HT := Lib.hid ht1
    clear ht1
    obtain rfl := hs.addr.resolve_right (by omega)
    have hc := hs.cells (k - 1) (by omega)
    generalize nth xs (k - 1) = d at *
    go_enter Try.func118, Try.ntmps118
    go_wp2_with fail
    refine (Try.bits_Len32 _ _ (by omega) (by omega)).mono ?_
    rintro e w' ⟨rfl, hw⟩
    subst hw
    rw [Int.toNat_natCast, bitLen_eq (by omega)]
    go_wp2
    go_ret
    refine ⟨?_, rfl⟩
    refine congrArg Ending.returned ?_
    show Value.int IntKind.i64 _ = _
    refine congrArg _ ?_
    rw [HT.out]
    omega

theorem words_eq (x : Nat) : val 4294967296 [x % 4294967296, x / 4294967296] = x := by
  simp only [val]; omega

set_option maxHeartbeats 400000 in
theorem words_any (x : Int) (w : World) (h0 : 0 ≤ x) (h1 : x ≤ 18446744073709551615) : Calls Try.prog 101 #[.int .u64 x] w (RetN w x.toNat) := by
  obtain ⟨n, rfl⟩ := Int.eq_ofNat_of_zero_le h0
  rw [Int.toNat_natCast]
  go_enter Try.func101, Try.ntmps101
  go_wp2_with fail
  have hown : Own (w.alloc (.cells #[.int .u32 ((n : Int) % 4294967296), .int .u32 ((n : Int) / 4294967296)] 115)) .u32 115 w.heap.size [n % 4294967296, n / 4294967296] := by
    unfold Own
    rw [heap_alloc_new]
    simp [cellsOf]
  have hdg : Dg 4294967296 [n % 4294967296, n / 4294967296] := by
    intro x hx
    simp only [List.mem_cons, List.not_mem_nil, or_false] at hx
    omega
  refine (norm_any _ [n % 4294967296, n / 4294967296] _ (hown.sl (n := 2) rfl (by omega) hdg.wf32)).mono ?_
  intro e w2 hr
  obtain ⟨v, rfl, hv, hb3⟩ := hr.num hdg (words_eq n) ((Below.refl _ w).alloc (Nat.le_refl _) _)
  clear hown hdg hr
  go_wp2
  go_ret
  exact ⟨_, rfl, hv, hb3⟩
end Go.Proofs.Ytppbhjhbaknidaa

/-
  The contracts of the program's lsh and rsh: the number times, and divided by, a power of two. Condition: sizes of at most 2^32 bits.
-/
namespace Go.Proofs.Ytppbhjhbaknidaa
open Go.RowKit

structure LshInv (xs zs : List Nat) (N k s i : Nat) : Prop where
  len : zs.length = N
  dg : Dg 4294967296 zs
  eq : val 4294967296 zs = val 4294967296 (xs.take i) * P2 s * 4294967296 ^ k
  low : nth zs (i + k) < P2 s
  top : ∀ t, i + k < t → nth zs t = 0

theorem LshInv.zero (xs : List Nat) (N k s : Nat) : LshInv xs (List.replicate N 0) N k s 0 :=
  ⟨by simp, Dg.zeros (by omega) _, by simp [val_zeros, val], by rw [nth_zeros]; exact P2_pos s, fun t _ => nth_zeros N t⟩

/-- The low half of a shifted word and what came over: their 'or' is their sum. -/
theorem or_sum {x s d : Nat} (hs : s < 32) (hd : d < P2 s) : (x * P2 s) % 4294967296 ||| d = (x * P2 s) % 4294967296 + d ∧ (x * P2 s) % 4294967296 + d < 4294967296 := by
  have e : 4294967296 = P2 s * P2 (32 - s) := by rw [← P2_add, show s + (32 - s) = 32 by omega]; rfl
  have h : (x * P2 s) % 4294967296 = P2 s * (x % P2 (32 - s)) := by
    rw [e, Nat.mul_comm x, Nat.mul_mod_mul_left]
  rw [h]
  have hlt : x % P2 (32 - s) < P2 (32 - s) := Nat.mod_lt _ (P2_pos _)
  constructor
  · unfold P2 at hd ⊢
    exact (Nat.two_pow_add_eq_or_of_lt hd _).symm
  · rw [e]
    have := Nat.mul_le_mul_left (P2 s) (show x % P2 (32 - s) + 1 ≤ P2 (32 - s) from hlt)
    rw [Nat.mul_add] at this
    omega

theorem LshInv.step {xs zs : List Nat} {N k s i : Nat} (h : LshInv xs zs N k s i) (ha : Dg 4294967296 xs) (hs : s < 32) (hi : i + k + 1 < N) :
    LshInv xs ((zs.set (i + k) ((nth xs i * P2 s) % 4294967296 ||| nth zs (i + k))).set (i + k + 1) ((nth xs i * P2 s) / 4294967296)) N k s (i + 1) := by
  have hx := ha.nth (by omega) i
  obtain ⟨o1, o2⟩ := or_sum (x := nth xs i) hs h.low
  rw [o1]
  have hlt : (nth xs i * P2 s) / 4294967296 < P2 s := by
    rw [Nat.div_lt_iff_lt_mul (by omega), Nat.mul_comm]
    exact Nat.mul_lt_mul_of_pos_left hx (P2_pos s)
  have hlt2 : (nth xs i * P2 s) / 4294967296 < 4294967296 := by
    have : P2 s ≤ P2 32 := P2_mono (by omega)
    have e : P2 32 = 4294967296 := rfl
    omega
  have hv1 := val_set 4294967296 zs (i + k) ((nth xs i * P2 s) % 4294967296 + nth zs (i + k)) (by rw [h.len]; omega)
  have hv2 := val_set 4294967296 (zs.set (i + k) ((nth xs i * P2 s) % 4294967296 + nth zs (i + k))) (i + k + 1) ((nth xs i * P2 s) / 4294967296) (by rw [List.length_set, h.len]; omega)
  rw [nth_set_ne _ _ _ _ (by omega), h.top (i + k + 1) (by omega), Nat.mul_zero, Nat.add_zero] at hv2
  refine ⟨by rw [List.length_set, List.length_set, h.len], (h.dg.set _ o2).set _ hlt2, ?_, ?_, ?_⟩
  · rw [hv2, val_take_succ, Nat.add_mul, Nat.add_mul, ← h.eq, Nat.pow_succ 4294967296 (i + k)]
    have e3 : 4294967296 ^ i * nth xs i * P2 s * 4294967296 ^ k = 4294967296 ^ (i + k) * (nth xs i * P2 s) := by
      rw [Nat.pow_add]; simp only [Nat.mul_assoc, Nat.mul_comm, Nat.mul_left_comm]
    rw [e3]
    have e4 := Nat.mod_add_div (nth xs i * P2 s) 4294967296
    generalize nth xs i * P2 s = x at *
    generalize 4294967296 ^ (i + k) = p at *
    have e5 : p * (x % 4294967296) + p * (4294967296 * (x / 4294967296)) = p * x := by rw [← Nat.mul_add, e4]
    rw [Nat.mul_add] at hv1
    rw [Nat.mul_assoc]
    omega
  · rw [show i + 1 + k = i + k + 1 by omega, nth_set_eq _ _ _ (by rw [List.length_set, h.len]; exact hi)]
    exact hlt
  · intro t ht
    rw [nth_set_ne _ _ _ _ (by omega), nth_set_ne _ _ _ _ (by omega), h.top _ (by omega)]

theorem shl_lt {x s : Nat} (hx : x < 4294967296) (hs : s < 32) : x * P2 s < 18446744073709551616 := by
  have h1 : P2 s ≤ P2 32 := P2_mono (by omega)
  have h2 : x * P2 s ≤ 4294967295 * P2 32 := Nat.mul_le_mul (by omega) h1
  have e : P2 32 = 4294967296 := rfl
  omega

theorem shl_nat {x s : Nat} (hx : x < 4294967296) (hs : s < 32) : IntKind.u64.wrap ((x : Int) * 2 ^ (s % 32)) = ((x * P2 s : Nat) : Int) := by
  have h := shl_lt hx hs
  have e : (x : Int) * 2 ^ (s % 32) = ((x * P2 s : Nat) : Int) := by
    rw [Nat.mod_eq_of_lt hs, Int.natCast_mul]
    unfold P2
    rw [Int.natCast_pow]; rfl
  rw [e, wrap_u64]
  omega

theorem or32 {a y : Nat} (ha : a < 4294967296) : bits .or .u32 (a : Int) ((y : Int) % 4294967296) = ((y % 4294967296 ||| a : Nat) : Int) := by
  rw [show (y : Int) % 4294967296 = ((y % 4294967296 : Nat) : Int) by omega, u32_or_nat _ _ ha (Nat.mod_lt _ (by omega)), Nat.or_comm]

set_option maxHeartbeats 1000000 in
theorem lsh_any {w : World} {v : Value} {m : Nat} (ha : IsN w v m) (S : Int) (hS0 : 0 ≤ S) (hS : S ≤ 4294967296) (L : Nat) (hL : L ≤ 8589934592) (hm : m < P2 L) :
    Calls Try.prog 122 #[v, .int .i64 S] w (RetN w (m * P2 S.toNat)) := by
  obtain ⟨S, rfl⟩ := Int.eq_ofNat_of_zero_le hS0
  rw [Int.toNat_natCast]
  obtain ⟨xs, ha, hca, rfl⟩ := ha
  have l1 := hca.len_P2 hm
  obtain ⟨ao, n, cap, b, off, rfl, hs⟩ := ha
  rw [hs.len] at l1
  have hnb : n ≤ 300000000 := by omega
  have hle := hs.le
  have hmax := hs.max
  have hda := hca.1
  clear hm
  by_cases h0 : n = 0
  · have hx : xs = [] := List.eq_nil_of_length_eq_zero (by rw [hs.len, h0])
    subst hx
    have hb : ((n : Int) == 0) = true := by simp [h0]
    rw [show val 4294967296 [] = 0 from rfl, Nat.zero_mul]
    go_enter Try.func122, Try.ntmps122
    go_wp2
    go_ret
    exact ⟨_, rfl, IsN.zero _, Below.refl _ _⟩
  · have hb : ((n : Int) == 0) = false := by simp [h0]
    obtain rfl := hs.addr.resolve_right (by omega)
    obtain ⟨k, hk⟩ : ∃ k, k = S / 32 := ⟨_, rfl⟩
    obtain ⟨s, hsq⟩ : ∃ s, s = S % 32 := ⟨_, rfl⟩
    have hs32 : s < 32 := by omega
    have hkb : k ≤ 134217728 := by omega
    have HS : Hid (S = 32 * k + s) := show S = 32 * k + s by omega
    rw [HS.out]
    clear hk hsq hS hS0 HS S
    go_enter Try.func122, Try.ntmps122
    go_wp2_with (first | (at_make; rw [show (32 * (k : Int) + s) / 32 = (k : Int) by omega, show (32 * (k : Int) + s) % 32 = (s : Int) by omega]; refine wpList_make_nums _ rfl _ _ 23 rfl 115 .u32 4 Try.underlying23 (by kernel_rfl) .i64 .i64 _ _ (n + k + 1) rfl rfl (by omega) (by omega) (by omega) (by omega) ?_; intro w1 hown hbel))
    go_loopw [26] (fun i wr => ∃ (j : Nat) (zs : List Nat), j ≤ n ∧ i = .int .i64 j ∧ LshInv xs zs (n + k + 1) k s j ∧ Own wr .u32 115 w.heap.size zs ∧ Below w.heap.size w wr)
      (fun i _ => n - (intOf i).toNat)
    case atStart => exact ⟨0, _, Nat.zero_le _, rfl, LshInv.zero xs _ k s, hown, hbel⟩
    case round =>
      obtain ⟨j, zs, hj, rfl, hinv, hown1, hbel1⟩ := hrel
      clear hown hbel
      by_cases hlt : j < n
      · have hc1 : wr.cell? ⟨b, off + j, none⟩ = some (.int .u32 (nth xs j)) := by
          rw [hbel1.cell (p := ⟨b, off + j, none⟩) (hs.lt (by omega))]; exact hs.cells j hlt
        have HLZ := Lib.hid hinv.len
        have ho : wr.cell? ⟨w.heap.size, j + k, none⟩ = some (.int .u32 (nth zs (j + k))) := hown1.cell (by rw [HLZ.out]; omega)
        have hf := hown1.frozen (j + k)
        have ho2 : wr.cell? ⟨w.heap.size, j + k + 1, none⟩ = some (.int .u32 (nth zs (j + k + 1))) := hown1.cell (by rw [HLZ.out]; omega)
        have hf2 := hown1.frozen (j + k + 1)
        have hx := hda.nth (by omega) j
        have HF := Lib.hid (hinv.step hda hs32 (by omega))
        have hz := hinv.dg.nth (by omega) (j + k)
        have HX := Lib.hid (shl_nat hx hs32)
        have HO := Lib.hid (or32 (y := nth xs j * P2 s) hz)
        have hsl := shl_lt hx hs32
        go_wp2
        rw [HX.out, HO.out]
        go_roundw
        case rel =>
          refine ⟨j + 1, _, by omega, by go_num, HF.out, ?_, (hbel1.setCell (Nat.le_refl _) _).setCell (Nat.le_refl _) _⟩
          exact (hown1.seti (j + k) _ rfl).seti (j + k + 1) _ (by omega)
        case measure => simp [intOf]; omega
      · obtain rfl : j = n := by omega
        have hfin : val 4294967296 zs = val 4294967296 xs * P2 (32 * k + s) := by
          rw [hinv.eq, val_take_ge _ (Nat.le_of_eq hs.len), P2_32, Nat.mul_assoc, ← P2_add, Nat.add_comm s]
        have HF := Lib.hid hfin
        clear hfin
        have HL := Lib.hid hinv.len
        go_wp2_with fail
        refine (norm_any _ zs _ (hown1.sl (n := j + k + 1) HL.out (by omega) hinv.dg.wf32)).mono ?_
        intro e w2 hr
        obtain ⟨v, rfl, hv, hb3⟩ := hr.num hinv.dg HF.out hbel1
        go_wp2
        go_ret
        exact ⟨_, rfl, hv, hb3⟩
end Go.Proofs.Ytppbhjhbaknidaa

/-
  The contract of the program's rsh: the number divided by a power of two, rounded down. Condition: sizes of at most 2^32 bits.
-/
namespace Go.Proofs.Ytppbhjhbaknidaa
open Go.RowKit

structure RshInv (ys zs : List Nat) (s i : Nat) : Prop where
  len : zs.length = i
  dg : Dg 4294967296 zs
  eq : val 4294967296 zs * P2 s + nth ys 0 % P2 s = val 4294967296 (ys.take i) + 4294967296 ^ i * (nth ys i % P2 s)

theorem RshInv.zero (ys : List Nat) (s : Nat) : RshInv ys [] s 0 := ⟨rfl, Dg.nil _, by simp [val]⟩

theorem rsh_digit {y0 y1 s : Nat} (h0 : y0 < 4294967296) (hs : s < 32) :
    ((y0 + 4294967296 * y1) / P2 s % 4294967296) * P2 s + y0 % P2 s = y0 + 4294967296 * (y1 % P2 s) := by
  have e : 4294967296 = P2 s * P2 (32 - s) := by rw [← P2_add, show s + (32 - s) = 32 by omega]; rfl
  have hp := P2_pos s
  have hq := P2_pos (32 - s)
  generalize P2 s = p at *
  generalize P2 (32 - s) = q at *
  have e1 : (y0 + 4294967296 * y1) / p = y0 / p + q * y1 := by
    rw [e, Nat.mul_assoc, Nat.add_mul_div_left _ _ hp]
  have h2 : y0 / p < q := by rw [Nat.div_lt_iff_lt_mul hp, Nat.mul_comm, ← e]; exact h0
  have e2 : (y0 / p + q * y1) % 4294967296 = y0 / p + q * (y1 % p) := by
    have d := Nat.mod_add_div y1 p
    have e3 : y0 / p + q * y1 = y0 / p + q * (y1 % p) + 4294967296 * (y1 / p) := by
      rw [e]
      have : q * y1 = q * (y1 % p) + p * q * (y1 / p) := by
        conv => lhs; rw [← d]
        rw [Nat.mul_add]; simp only [Nat.mul_comm, Nat.mul_left_comm]
      omega
    rw [e3, Nat.add_mul_mod_self_left]
    apply Nat.mod_eq_of_lt
    have h3 : y1 % p + 1 ≤ p := Nat.mod_lt _ hp
    have h4 := Nat.mul_le_mul_left q h3
    rw [Nat.mul_add, Nat.mul_comm q p, ← e] at h4
    omega
  rw [e1, e2, Nat.add_mul]
  have e5 := Nat.mod_add_div y0 p
  have e6 : q * (y1 % p) * p = 4294967296 * (y1 % p) := by rw [e]; simp only [Nat.mul_comm, Nat.mul_left_comm]
  rw [e6]
  have e7 : y0 / p * p = p * (y0 / p) := Nat.mul_comm _ _
  omega

theorem RshInv.step {ys zs : List Nat} {s i : Nat} (h : RshInv ys zs s i) (hy : Dg 4294967296 ys) (hs : s < 32) :
    RshInv ys (zs ++ [(nth ys i + 4294967296 * nth ys (i + 1)) / P2 s % 4294967296]) s (i + 1) := by
  have h0 := hy.nth (by omega) i
  refine ⟨by rw [List.length_append, h.len]; rfl, h.dg.snoc (Nat.mod_lt _ (by omega)), ?_⟩
  have e := rsh_digit (y1 := nth ys (i + 1)) h0 hs
  rw [val_snoc, h.len, val_take_succ, Nat.pow_succ]
  have e2 := h.eq
  generalize (nth ys i + 4294967296 * nth ys (i + 1)) / P2 s % 4294967296 = z at *
  generalize 4294967296 ^ i = p at *
  have e3 : p * (z * P2 s) + p * (nth ys i % P2 s) = p * nth ys i + p * (4294967296 * (nth ys (i + 1) % P2 s)) := by
    rw [← Nat.mul_add, e, Nat.mul_add]
  rw [Nat.add_mul, Nat.mul_assoc p, Nat.mul_assoc p]
  omega

theorem RshInv.done {ys zs : List Nat} {s i : Nat} (h : RshInv ys zs s i) (hi : ys.length ≤ i) : val 4294967296 zs = val 4294967296 ys / P2 s := by
  have e := h.eq
  rw [val_take_ge _ hi, nth_ge hi, Nat.zero_mod, Nat.mul_zero, Nat.add_zero] at e
  rw [← e, Nat.mul_comm, Nat.mul_add_div (P2_pos s), Nat.div_eq_of_lt (Nat.mod_lt _ (P2_pos s)), Nat.add_zero]

theorem or64 {x y : Nat} (hx : x < 4294967296) (hy : y < 4294967296) : bits .or .u64 (x : Int) ((y : Int) * 4294967296) = ((x + 4294967296 * y : Nat) : Int) := by
  rw [show (y : Int) * 4294967296 = ((4294967296 * y : Nat) : Int) by omega, u64_or_nat _ _ (by omega) (by omega), Nat.or_comm]
  have := Nat.two_pow_add_eq_or_of_lt (i := 32) (b := x) hx y
  rw [show (2 : Nat) ^ 32 = 4294967296 from rfl] at this
  rw [← this, Nat.add_comm]

theorem shr_nat (z s : Nat) : (z : Int) / 2 ^ s % 4294967296 = ((z / P2 s % 4294967296 : Nat) : Int) := by
  unfold P2
  simp

theorem val_drop_div {xs : List Nat} (h : Dg 4294967296 xs) (k : Nat) (hk : k ≤ xs.length) : val 4294967296 (xs.drop k) = val 4294967296 xs / P2 (32 * k) := by
  have e := val_take_drop 4294967296 xs k hk
  have b := val_lt (h.take k)
  rw [List.length_take, Nat.min_eq_left hk, P2_32] at b
  rw [P2_32] at e
  rw [e, Nat.add_comm, Nat.mul_add_div (P2_pos _), Nat.div_eq_of_lt b, Nat.add_zero]

set_option maxHeartbeats 1000000 in
theorem rsh_any {w : World} {v : Value} {m : Nat} (ha : IsN w v m) (S : Int) (hS0 : 0 ≤ S) (hS : S ≤ 4294967296) (L : Nat) (hL : L ≤ 8589934592) (hm : m < P2 L) :
    Calls Try.prog 123 #[v, .int .i64 S] w (RetN w (m / P2 S.toNat)) := by
  obtain ⟨S, rfl⟩ := Int.eq_ofNat_of_zero_le hS0
  rw [Int.toNat_natCast]
  obtain ⟨xs, ha, hca, rfl⟩ := ha
  have l1 := hca.len_P2 hm
  obtain ⟨ao, n, cap, b, off, rfl, hs⟩ := ha
  rw [hs.len] at l1
  have hnb : n ≤ 300000000 := by omega
  have hle := hs.le
  have hmax := hs.max
  have hda := hca.1
  clear hm
  obtain ⟨k, hk⟩ : ∃ k, k = S / 32 := ⟨_, rfl⟩
  obtain ⟨s, hsq⟩ : ∃ s, s = S % 32 := ⟨_, rfl⟩
  have hs32 : s < 32 := by omega
  have hkb : k ≤ 134217728 := by omega
  have HS : Hid (S = 32 * k + s) := show S = 32 * k + s by omega
  rw [HS.out]
  clear hk hsq hS hS0 HS S
  by_cases h0 : n ≤ k
  · have hz : val 4294967296 xs / P2 (32 * k + s) = 0 := by
      apply Nat.div_eq_of_lt
      have := val_lt hda
      rw [P2_32, hs.len] at this
      exact lt_P2_mono this (by omega)
    rw [hz]
    clear hz
    go_enter Try.func123, Try.ntmps123
    go_wp2
    go_ret
    exact ⟨_, rfl, IsN.zero _, Below.refl _ _⟩
  · obtain rfl := hs.addr.resolve_right (by omega)
    obtain ⟨m, hm⟩ : ∃ m, m = n - k := ⟨_, rfl⟩
    have hmn : k + m = n := by omega
    have HM := Lib.hid hm
    have hys : (xs.drop k).length = m := by rw [List.length_drop, hs.len, hm]
    have hnth : ∀ i, nth (xs.drop k) i = nth xs (k + i) := fun i => nth_drop xs k i
    have hdy := hda.drop k
    have hfin : val 4294967296 (xs.drop k) / P2 s = val 4294967296 xs / P2 (32 * k + s) := by
      rw [val_drop_div hda k (by rw [hs.len]; omega), Nat.div_div_eq_div_mul, ← P2_add]
    have HF := Lib.hid hfin
    have HY := Lib.hid hys
    have HN := Lib.hid hnth
    clear hfin hys hnth hm
    generalize xs.drop k = ys at *
    go_enter Try.func123, Try.ntmps123
    go_wp2_with (first | (at_make; rw [show (32 * (k : Int) + s) / 32 = (k : Int) by omega, show (32 * (k : Int) + s) % 32 = (s : Int) by omega, show (s : Int) % 32 = (s : Int) by omega]; refine wpList_make_nums _ rfl _ _ 23 rfl 115 .u32 4 Try.underlying23 (by kernel_rfl) .i64 .i64 _ _ m rfl rfl (by omega) (by omega) (by omega) (by omega) ?_; intro w1 hown hbel))
    go_loopw [26] (fun i wr => ∃ (j : Nat) (zs : List Nat), j ≤ m ∧ i = .int .i64 j ∧ RshInv ys zs s j ∧ Own wr .u32 115 w.heap.size (zs ++ List.replicate (m - j) 0) ∧ Below w.heap.size w wr)
      (fun i _ => m - (intOf i).toNat)
    case atStart => exact ⟨0, [], Nat.zero_le _, rfl, RshInv.zero _ _, by simpa using hown, hbel⟩
    case round =>
      obtain ⟨j, zs, hj, rfl, hinv, hown1, hbel1⟩ := hrel
      clear hown hbel
      by_cases hlt : j < m
      · have hc1 : wr.cell? ⟨b, off + (j + k), none⟩ = some (.int .u32 (nth ys j)) := by
          rw [hbel1.cell (p := ⟨b, off + (j + k), none⟩) (hs.lt (by omega)), hs.cells (j + k) (by omega), HN.out, Nat.add_comm]
        have ho : wr.cell? ⟨w.heap.size, j, none⟩ = some (.int .u32 (nth (zs ++ List.replicate (m - j) 0) j)) := hown1.cell (by rw [List.length_append, hinv.len, List.length_replicate]; omega)
        have hf := hown1.frozen j
        have hx := hdy.nth (by omega) j
        have hy := hdy.nth (by omega) (j + 1)
        have HS := Lib.hid (hinv.step hdy hs32)
        by_cases hlt2 : j + 1 < m
        · have hc2 : wr.cell? ⟨b, off + (j + k + 1), none⟩ = some (.int .u32 (nth ys (j + 1))) := by
            rw [hbel1.cell (p := ⟨b, off + (j + k + 1), none⟩) (hs.lt (by omega)), hs.cells (j + k + 1) (by omega), HN.out, show k + (j + 1) = j + k + 1 by omega]
          have HO := Lib.hid (or64 hx hy)
          go_wp2
          rw [HO.out]
          go_roundw
          case rel =>
            refine ⟨j + 1, _, by omega, by go_num, HS.out, ?_, hbel1.setCell (Nat.le_refl _) _⟩
            rw [← set_zeros zs j m _ hinv.len hlt]
            exact hown1.seti j _ (shr_nat _ _)
          case measure => simp [intOf]; omega
        · have h0y : nth ys (j + 1) = 0 := nth_ge (by rw [HY.out]; omega)
          rw [h0y] at HS
          clear h0y
          go_wp2
          go_roundw
          case rel =>
            refine ⟨j + 1, _, by omega, by go_num, HS.out, ?_, hbel1.setCell (Nat.le_refl _) _⟩
            rw [← set_zeros zs j m _ hinv.len hlt]
            exact hown1.seti j _ (shr_nat _ _)
          case measure => simp [intOf]; omega
      · obtain rfl : j = m := by omega
        rw [Nat.sub_self, List.replicate_zero, List.append_nil] at hown1
        have HV := Lib.hid (hinv.done (by rw [HY.out]; exact Nat.le_refl _))
        have HL := Lib.hid hinv.len
        go_wp2_with fail
        refine (norm_any _ zs _ (hown1.sl HL.out (by omega) hinv.dg.wf32)).mono ?_
        intro e w2 hr
        obtain ⟨v, rfl, hv, hb3⟩ := hr.num hinv.dg (HV.out.trans HF.out) hbel1
        go_wp2
        go_ret
        exact ⟨_, rfl, hv, hb3⟩
end Go.Proofs.Ytppbhjhbaknidaa

/-
  The contract of the program's divWord: quotient and remainder by a word. Conditions: the word is not 0; numbers of at most 2^33 bits.
-/
namespace Go.Proofs.Ytppbhjhbaknidaa
open Go.RowKit

structure DivWInv (xs qs : List Nat) (d n j r : Nat) : Prop where
  len : qs.length = n - j
  dg : Dg 4294967296 qs
  rest : r < d
  eq : val 4294967296 qs * d + r = val 4294967296 (xs.drop j)

theorem DivWInv.zero {xs : List Nat} {d n : Nat} (hd : 0 < d) (hn : xs.length = n) : DivWInv xs [] d n n 0 :=
  ⟨by simp, Dg.nil _, hd, by rw [List.drop_of_length_le (by omega)]; simp [val]⟩

theorem val_drop_cons (b : Nat) {xs : List Nat} {k : Nat} (h : k < xs.length) : val b (xs.drop k) = nth xs k + b * val b (xs.drop (k + 1)) := by
  rw [List.drop_eq_getElem_cons h, val, nth_lt h]

theorem DivWInv.step {xs qs : List Nat} {d n k r : Nat} (h : DivWInv xs qs d n (k + 1) r) (hx : Dg 4294967296 xs) (hn : xs.length = n) (hk : k < n) :
    DivWInv xs ((nth xs k + 4294967296 * r) / d :: qs) d n k ((nth xs k + 4294967296 * r) % d) ∧ (nth xs k + 4294967296 * r) / d < 4294967296 := by
  have h0 := hx.nth (by omega) k
  have hr := h.rest
  have hq : (nth xs k + 4294967296 * r) / d < 4294967296 := by
    rw [Nat.div_lt_iff_lt_mul (by omega)]
    have : 4294967296 * (r + 1) ≤ 4294967296 * d := Nat.mul_le_mul_left _ hr
    omega
  refine ⟨⟨by rw [List.length_cons, h.len]; omega, ?_, Nat.mod_lt _ (by omega), ?_⟩, hq⟩
  · intro x hx
    rcases List.mem_cons.1 hx with hx | hx
    · rw [hx]; exact hq
    · exact h.dg x hx
  · rw [val_drop_cons _ (by omega), ← h.eq, val]
    have e := Nat.mod_add_div (nth xs k + 4294967296 * r) d
    generalize (nth xs k + 4294967296 * r) / d = q at *
    generalize (nth xs k + 4294967296 * r) % d = t at *
    rw [Nat.add_mul, Nat.mul_assoc, Nat.mul_add]
    rw [Nat.mul_comm d q] at e
    omega

theorem set_front (qs : List Nat) (k q : Nat) : (List.replicate (k + 1) 0 ++ qs).set k q = List.replicate k 0 ++ q :: qs := by
  rw [List.replicate_succ', List.append_assoc, List.set_append_right _ _ (by simp)]
  simp

def RetNU (w : World) (n : Nat) (r : Nat) (e : Ending) (w' : World) : Prop := ∃ v, e = .returned (.tuple #[v, .int .u32 r]) ∧ IsN w' v n ∧ Below w.heap.size w w'

/-- .. the number in a block that the call has made. -/
def RetNUF (w : World) (n : Nat) (r : Nat) (e : Ending) (w' : World) : Prop := ∃ v, e = .returned (.tuple #[v, .int .u32 r]) ∧ IsN w' v n ∧ Below w.heap.size w w' ∧ (∀ k, v.ownBlock = some k → w.heap.size ≤ k)

theorem norm_own {w : World} {g n : Nat} {xs : List Nat} (h : Own w .u32 115 g xs) (hn : xs.length = n) (hm : n ≤ 1099511627776) (hd : Dg 4294967296 xs) :
    Calls Try.prog 126 #[.slice (some ⟨g, 0, none⟩) n n] w fun e w' => ∃ v, e = .returned v ∧ v.ownBlock = some g ∧ IsN w v (val 4294967296 xs) ∧ w' = w := by
  have hs := h.slAt hn hm hd.wf32
  refine (norm_val hs).mono ?_
  rintro e w' ⟨rfl, rfl⟩
  have ht := trim_spec xs
  rw [hs.len] at ht
  have := (hs.cut ht.1).sl
  rw [← ht.2] at this
  exact ⟨_, rfl, rfl, ⟨_, this, hd.can, val_trim _ _⟩, rfl⟩

theorem or64' {x y : Nat} (hx : x < 4294967296) (hy : y < 4294967296) : bits .or .u64 ((y : Int) * 4294967296) (x : Int) = (x : Int) + 4294967296 * (y : Int) := by
  rw [show (y : Int) * 4294967296 = ((4294967296 * y : Nat) : Int) by omega, u64_or_nat _ _ (by omega) (by omega)]
  have := Nat.two_pow_add_eq_or_of_lt (i := 32) (b := x) hx y
  rw [show (2 : Nat) ^ 32 = 4294967296 from rfl] at this
  rw [← this]
  omega

set_option maxHeartbeats 1000000 in
theorem divWord_own {w : World} {v : Value} {m : Nat} (ha : IsN w v m) (d : Nat) (hd0 : 1 ≤ d) (hd : d < 4294967296) (L : Nat) (hL : L ≤ 8589934592) (hm : m < P2 L) :
    Calls Try.prog 114 #[v, .int .u32 d] w (RetNUF w (m / d) (m % d)) := by
  obtain ⟨xs, ha, hca, rfl⟩ := ha
  have l1 := hca.len_P2 hm
  obtain ⟨ao, n, cap, b, off, rfl, hs⟩ := ha
  rw [hs.len] at l1
  have hnb : n ≤ 300000000 := by omega
  have hle := hs.le
  have hmax := hs.max
  have hda := hca.1
  clear hm
  go_enter Try.func114, Try.ntmps114
  go_wp2_with (first | (at_make; refine wpList_make_nums _ rfl _ _ 23 rfl 115 .u32 4 Try.underlying23 (by kernel_rfl) .i64 .i64 _ _ n rfl rfl rfl rfl (by omega) (by omega) ?_; intro w1 hown hbel))
  go_loopw [7, 8] (fun c i wr => ∃ (j r : Nat) (qs : List Nat), j ≤ n ∧ i = .int .i64 ((j : Int) - 1) ∧ c = .int .u64 r ∧ DivWInv xs qs d n j r ∧ Own wr .u32 115 w.heap.size (List.replicate j 0 ++ qs) ∧ Below w.heap.size w wr)
    (fun _ i _ => (intOf i + 1).toNat)
  case atStart => exact ⟨n, 0, [], Nat.le_refl _, rfl, rfl, DivWInv.zero (by omega) hs.len, by simpa using hown, hbel⟩
  case round =>
    obtain ⟨j, r, qs, hj, rfl, rfl, hinv, hown1, hbel1⟩ := hrel
    clear hown hbel
    have hr := hinv.rest
    by_cases h0 : j = 0
    · subst h0
      rw [List.replicate_zero, List.nil_append] at hown1
      have hfin : val 4294967296 qs = val 4294967296 xs / d ∧ r = val 4294967296 xs % d := by
        have e := hinv.eq
        rw [List.drop_zero] at e
        rw [← e, Nat.mul_comm, Nat.mul_add_div (by omega), Nat.mul_add_mod, Nat.div_eq_of_lt hr, Nat.mod_eq_of_lt hr]
        exact ⟨rfl, rfl⟩
      have HF := Lib.hid hfin
      clear hfin
      have HL := Lib.hid hinv.len
      have hd0 : decide ((0 : Int) ≤ ((0 : Nat) : Int) - 1) = false := rfl
      go_wp2_with fail
      refine (norm_own hown1 (n := n) (by rw [HL.out]; rfl) (by omega) hinv.dg).mono ?_
      rintro e w2 ⟨v, rfl, hvb, hv, rfl⟩
      go_wp2
      go_ret2
      refine ⟨v, ?_, ?_, hbel1, fun k hk => ?_⟩
      · rw [← HF.out.2]; rfl
      · rw [← HF.out.1]; exact hv
      · rw [hvb] at hk; cases hk; exact Nat.le_refl _
    · obtain ⟨k, rfl⟩ : ∃ k, j = k + 1 := ⟨j - 1, by omega⟩
      rw [show ((k + 1 : Nat) : Int) - 1 = (k : Int) by omega]
      obtain rfl := hs.addr.resolve_right (by omega)
      have hc1 : wr.cell? ⟨b, off + k, none⟩ = some (.int .u32 (nth xs k)) := by
        rw [hbel1.cell (p := ⟨b, off + k, none⟩) (hs.lt (by omega))]; exact hs.cells k (by omega)
      have ho : wr.cell? ⟨w.heap.size, k, none⟩ = some (.int .u32 (nth (List.replicate (k + 1) 0 ++ qs) k)) := hown1.cell (by rw [List.length_append, hinv.len, List.length_replicate]; omega)
      have hf := hown1.frozen k
      have hx := hda.nth (by omega) k
      have HS := Lib.hid (hinv.step hda hs.len (by omega))
      have hor := or64' hx (y := r) (by omega)
      go_wp2
      go_roundw
      case rel =>
        have e1 : ((nth xs k : Int) + 4294967296 * (r : Int)) % (d : Int) = (((nth xs k + 4294967296 * r) % d : Nat) : Int) := by
          rw [Int.natCast_emod, Int.natCast_add, Int.natCast_mul]; rfl
        have e2 : ((nth xs k : Int) + 4294967296 * (r : Int)) / (d : Int) = (((nth xs k + 4294967296 * r) / d : Nat) : Int) := by
          rw [Int.natCast_ediv, Int.natCast_add, Int.natCast_mul]; rfl
        rw [e1, e2]
        refine ⟨k, _, _, by omega, rfl, rfl, HS.out.1, ?_, hbel1.setCell (Nat.le_refl _) _⟩
        rw [← set_front]
        have hq := HS.out.2
        generalize (nth xs k + 4294967296 * r) / d = q at hq ⊢
        exact hown1.seti k _ (by omega)
      case measure => simp [intOf]

theorem divWord_any {w : World} {v : Value} {m : Nat} (ha : IsN w v m) (d : Nat) (hd0 : 1 ≤ d) (hd : d < 4294967296) (L : Nat) (hL : L ≤ 8589934592) (hm : m < P2 L) :
    Calls Try.prog 114 #[v, .int .u32 d] w (RetNU w (m / d) (m % d)) :=
  (divWord_own ha d hd0 hd L hL hm).mono fun _ _ ⟨v, h1, h2, h3, _⟩ => ⟨v, h1, h2, h3⟩

end Go.Proofs.Ytppbhjhbaknidaa

/-
  The contract of the program's estimate: the digit of the quotient, or one too great. Conditions: the divisor's highest word has its top bit set; the dividend's three words are less than the base times one more than the divisor's two.
-/
namespace Go.Proofs.Ytppbhjhbaknidaa
open Go.RowKit

/-- What estimate returns. -/
def estQ (U V : Nat) : Nat := min (U / V) 4294967295

structure EstInv (T u0 v1 v0 q r : Nat) : Prop where
  eq : q * v1 + r = T
  lo : estQ (T * 4294967296 + u0) (v1 * 4294967296 + v0) ≤ q
  hi : q ≤ 4294967297
  rb : r < 4294967296

section
variable {u2 u1 u0 v1 v0 : Nat}

theorem est_T (hu1 : u1 < 4294967296) (hu0 : u0 < 4294967296) (hv0 : v0 < 4294967296)
    (hb : (u2 * 4294967296 + u1) * 4294967296 + u0 < (v1 * 4294967296 + v0 + 1) * 4294967296) : u2 ≤ v1 := by omega

theorem EstInv.zero (hu1 : u1 < 4294967296) (hu0 : u0 < 4294967296) (hv0 : v0 < 4294967296) (hv1 : 2147483648 ≤ v1) (hv1' : v1 < 4294967296)
    (hb : (u2 * 4294967296 + u1) * 4294967296 + u0 < (v1 * 4294967296 + v0 + 1) * 4294967296) :
    EstInv (u2 * 4294967296 + u1) u0 v1 v0 ((u2 * 4294967296 + u1) / v1) ((u2 * 4294967296 + u1) % v1) := by
  have h2 := est_T hu1 hu0 hv0 hb
  have hm := Nat.mod_lt (u2 * 4294967296 + u1) (show 0 < v1 by omega)
  refine ⟨by rw [Nat.mul_comm]; exact Nat.div_add_mod _ _, ?_, ?_, by omega⟩
  · refine Nat.le_trans (Nat.min_le_left _ _) ?_
    rw [Nat.le_div_iff_mul_le (by omega)]
    have h3 := Nat.div_mul_le_self ((u2 * 4294967296 + u1) * 4294967296 + u0) (v1 * 4294967296 + v0)
    generalize ((u2 * 4294967296 + u1) * 4294967296 + u0) / (v1 * 4294967296 + v0) = q at *
    rw [Nat.mul_add, ← Nat.mul_assoc] at h3
    omega
  · have hv : 0 < v1 := by omega
    have h5 : u2 * 4294967296 ≤ v1 * 4294967296 := Nat.mul_le_mul_right _ h2
    have h6 : u1 < v1 + v1 := by omega
    have h3 : u2 * 4294967296 + u1 < 4294967298 * v1 := by
      rw [show (4294967298 : Nat) = 4294967296 + 2 from rfl, Nat.add_mul, Nat.mul_comm 4294967296 v1, Nat.two_mul]
      exact Nat.add_lt_add_of_le_of_lt h5 h6
    have h4 : (u2 * 4294967296 + u1) / v1 < 4294967298 := (Nat.div_lt_iff_lt_mul hv).2 h3
    exact Nat.le_of_lt_succ h4

variable {T q r : Nat}

/-- q times the divisor's two words, against the dividend's three. -/
theorem est_le (h : q * v1 + r = T) : q * (v1 * 4294967296 + v0) ≤ T * 4294967296 + u0 ↔ q * v0 ≤ r * 4294967296 + u0 := by
  rw [Nat.mul_add, ← Nat.mul_assoc, ← h, Nat.add_mul]
  omega

theorem EstInv.stop (h : EstInv T u0 v1 v0 q r) (hv : 0 < v1) (hq : q < 4294967296) (hle : q * v0 ≤ r * 4294967296 + u0) :
    q = estQ (T * 4294967296 + u0) (v1 * 4294967296 + v0) := by
  have h1 := (est_le (u0 := u0) (v0 := v0) h.eq).2 hle
  have h2 : q ≤ (T * 4294967296 + u0) / (v1 * 4294967296 + v0) := (Nat.le_div_iff_mul_le (by omega)).2 h1
  have h3 := h.lo
  unfold estQ at *
  omega

theorem EstInv.dec (h : EstInv T u0 v1 v0 q r) (hv : 0 < v1) (ht : 4294967296 ≤ q ∨ r * 4294967296 + u0 < q * v0) :
    1 ≤ q ∧ (q - 1) * v1 + (r + v1) = T ∧ estQ (T * 4294967296 + u0) (v1 * 4294967296 + v0) ≤ q - 1 := by
  have hq : 1 ≤ q := by
    rcases ht with ht | ht
    · omega
    · rcases Nat.eq_zero_or_pos q with h0 | h0
      · subst h0; omega
      · exact h0
  refine ⟨hq, ?_, ?_⟩
  · have := h.eq
    obtain ⟨p, rfl⟩ : ∃ p, q = p + 1 := ⟨q - 1, by omega⟩
    rw [Nat.add_mul] at this
    simp only [Nat.add_sub_cancel]
    omega
  · rcases ht with ht | ht
    · unfold estQ; omega
    · have h1 : ¬ q * (v1 * 4294967296 + v0) ≤ T * 4294967296 + u0 := fun hc => by have := (est_le (u0 := u0) (v0 := v0) h.eq).1 hc; omega
      have h2 : ¬ q ≤ (T * 4294967296 + u0) / (v1 * 4294967296 + v0) := fun hc => h1 ((Nat.le_div_iff_mul_le (by omega)).1 hc)
      unfold estQ; omega

theorem EstInv.go (h : EstInv T u0 v1 v0 q r) (hv : 0 < v1) (ht : 4294967296 ≤ q ∨ r * 4294967296 + u0 < q * v0) (hr : r + v1 < 4294967296) : EstInv T u0 v1 v0 (q - 1) (r + v1) := by
  obtain ⟨a, b, c⟩ := h.dec hv ht
  exact ⟨b, c, by have := h.hi; omega, hr⟩

theorem EstInv.out (h : EstInv T u0 v1 v0 q r) (hv : 0 < v1) (hv0 : v0 < 4294967296) (hb : T * 4294967296 + u0 < (v1 * 4294967296 + v0 + 1) * 4294967296)
    (ht : 4294967296 ≤ q ∨ r * 4294967296 + u0 < q * v0) (hr : 4294967296 ≤ r + v1) : q - 1 = estQ (T * 4294967296 + u0) (v1 * 4294967296 + v0) := by
  obtain ⟨a, b, c⟩ := h.dec hv ht
  have hq : q - 1 ≤ 4294967296 := by have := h.hi; omega
  have h5 : (q - 1) * v0 ≤ 4294967296 * v0 := Nat.mul_le_mul_right _ hq
  have h1 := (est_le (u0 := u0) (v0 := v0) b).2 (by omega)
  have h2 : q - 1 ≤ (T * 4294967296 + u0) / (v1 * 4294967296 + v0) := (Nat.le_div_iff_mul_le (by omega)).2 h1
  have h3 : q - 1 < 4294967296 := by
    rcases Nat.lt_or_ge (q - 1) 4294967296 with h | h
    · exact h
    · have : q - 1 = 4294967296 := by omega
      rw [this] at b
      omega
  unfold estQ at *
  omega
end

def RetU64 (w : World) (z : Nat) (e : Ending) (w' : World) : Prop := e = .returned (.int .u64 z) ∧ ∃ m, w' = w.drewN m

set_option maxHeartbeats 1000000 in
theorem estimate_core (w : World) (u2 u1 u0 v1 v0 T E : Nat) (hu2 : u2 < 4294967296) (hu1 : u1 < 4294967296) (hu0 : u0 < 4294967296) (hv1 : 2147483648 ≤ v1) (hv1' : v1 < 4294967296) (hv0 : v0 < 4294967296)
    (hT : (u1 : Int) + 4294967296 * (u2 : Int) = (T : Int)) (hTb : T < 18446744073709551616) (HZ : Hid (EstInv T u0 v1 v0 (T / v1) (T % v1))) (HE : Hid (E = estQ (T * 4294967296 + u0) (v1 * 4294967296 + v0)))
    (HB : Hid (T * 4294967296 + u0 < (v1 * 4294967296 + v0 + 1) * 4294967296)) :
    Calls Try.prog 130 #[.int .u64 u2, .int .u64 u1, .int .u64 u0, .int .u64 v1, .int .u64 v0] w (RetU64 w E) := by
  have hor := or64' hu1 hu2
  rw [hT] at hor
  clear hT
  go_enter Try.func130, Try.ntmps130
  go_wp2
  go_step3
  go_wp2
  go_quiet (fail)
  go_wp2
  go_step3
  go_wp2
  go_loop [12, 13] (fun a b => ∃ q r : Nat, a = .int .u64 q ∧ b = .int .u64 r ∧ EstInv T u0 v1 v0 q r) (fun a _ => (intOf a).toNat)
  case atStart =>
    refine ⟨_, _, ?_, ?_, HZ.out⟩
    · have := HZ.out.hi
      rw [← Int.natCast_ediv]
      generalize T / v1 = z at *
      rw [IntWalk.u64_in _ (by omega)]
    · rw [Int.natCast_emod]
  case round =>
    obtain ⟨q, r, rfl, rfl, hinv⟩ := hrel
    clear hor hTb
    have hq := hinv.hi
    have hr := hinv.rb
    have HI := Lib.hid hinv
    clear hinv
    have hor := or64' hu0 hr
    by_cases hq1 : 4294967296 ≤ q
    · have a0 : decide ((4294967296 : Int) ≤ (q : Int)) = true := decide_eq_true (by omega)
      have a1 : (1 : Int) ≤ (q : Int) := by omega
      have a2 : (q : Int) ≤ 4294967297 := by omega
      by_cases hr1 : r + v1 < 4294967296
      · have HG := Lib.hid (HI.out.go (by omega) (.inl hq1) hr1)
        have a3 : decide ((4294967296 : Int) ≤ (r : Int) + (v1 : Int)) = false := decide_eq_false (by omega)
        have a4 : (r : Int) + (v1 : Int) < 4294967296 := by omega
        clear hq hq1 hr hr1
        go_wp2
        go_round
        case rel => exact ⟨q - 1, r + v1, by refine congrArg _ ?_; omega, rfl, HG.out⟩
        case measure => simp only [intOf]; omega
      · have HG := Lib.hid (HI.out.out (by omega) hv0 HB.out (.inl hq1) (by omega))
        have a3 : decide ((4294967296 : Int) ≤ (r : Int) + (v1 : Int)) = true := decide_eq_true (by omega)
        have a4 : (r : Int) < 4294967296 := by omega
        clear hq hq1 hr hr1
        go_wp2
        go_ret
        exact ⟨congrArg Ending.returned (show Value.int .u64 ((q : Int) - 1) = .int .u64 E from congrArg _ (by rw [HE.out, ← HG.out]; omega)), ⟨_, rfl⟩⟩
    · have hb := mul_bdI (x := q) (y := v0) (by omega) hv0
      obtain ⟨hb1, hb2⟩ := hb
      have a0 : decide ((4294967296 : Int) ≤ (q : Int)) = false := decide_eq_false (by omega)
      have a2 : (q : Int) < 4294967296 := by omega
      by_cases ht : r * 4294967296 + u0 < q * v0
      · have t1 : decide ((u0 : Int) + 4294967296 * (r : Int) < (q : Int) * (v0 : Int)) = true := decide_eq_true (by rw [← Int.natCast_mul]; omega)
        have a1 : (1 : Int) ≤ (q : Int) := by
          rcases Nat.eq_zero_or_pos q with h0 | h0
          · subst h0; rw [Nat.zero_mul] at ht; omega
          · omega
        by_cases hr1 : r + v1 < 4294967296
        · have HG := Lib.hid (HI.out.go (by omega) (.inr ht) hr1)
          have a3 : decide ((4294967296 : Int) ≤ (r : Int) + (v1 : Int)) = false := decide_eq_false (by omega)
          have a4 : (r : Int) + (v1 : Int) < 4294967296 := by omega
          clear hq hq1 hr hr1 ht
          go_wp2
          go_round
          case rel => exact ⟨q - 1, r + v1, by refine congrArg _ ?_; omega, rfl, HG.out⟩
          case measure => simp only [intOf]; omega
        · have HG := Lib.hid (HI.out.out (by omega) hv0 HB.out (.inr ht) (by omega))
          have a3 : decide ((4294967296 : Int) ≤ (r : Int) + (v1 : Int)) = true := decide_eq_true (by omega)
          have a4 : (r : Int) < 4294967296 := by omega
          clear hq hq1 hr hr1 ht
          go_wp2
          go_ret
          exact ⟨congrArg Ending.returned (show Value.int .u64 ((q : Int) - 1) = .int .u64 E from congrArg _ (by rw [HE.out, ← HG.out]; omega)), ⟨_, rfl⟩⟩
      · have t1 : decide ((u0 : Int) + 4294967296 * (r : Int) < (q : Int) * (v0 : Int)) = false := decide_eq_false (by rw [← Int.natCast_mul]; omega)
        have HG := Lib.hid (HI.out.stop (by omega) (by omega) (by omega))
        have a4 : (r : Int) < 4294967296 := by omega
        clear hq hq1 hr ht
        go_wp2
        go_ret
        exact ⟨congrArg Ending.returned (show Value.int .u64 (q : Int) = .int .u64 E from congrArg _ (by rw [HE.out, ← HG.out])), ⟨_, rfl⟩⟩

theorem estimate_any (w : World) (u2 u1 u0 v1 v0 : Nat) (hu2 : u2 < 4294967296) (hu1 : u1 < 4294967296) (hu0 : u0 < 4294967296) (hv1 : 2147483648 ≤ v1) (hv1' : v1 < 4294967296) (hv0 : v0 < 4294967296)
    (hb : (u2 * 4294967296 + u1) * 4294967296 + u0 < (v1 * 4294967296 + v0 + 1) * 4294967296) :
    Calls Try.prog 130 #[.int .u64 u2, .int .u64 u1, .int .u64 u0, .int .u64 v1, .int .u64 v0] w
      (RetU64 w (estQ ((u2 * 4294967296 + u1) * 4294967296 + u0) (v1 * 4294967296 + v0))) :=
  estimate_core w u2 u1 u0 v1 v0 _ _ hu2 hu1 hu0 hv1 hv1' hv0 (by clear hb; omega) (by clear hb; omega) (EstInv.zero hu1 hu0 hv0 hv1 hv1' hb) (show _ = _ from rfl) hb

end Go.Proofs.Ytppbhjhbaknidaa

/-
  The contract of the program's reduce: the digit times the divisor is taken from the dividend in place, the digit corrected. Conditions: the digit is right or one too great; lengths of at most 2^30.
-/
namespace Go.Proofs.Ytppbhjhbaknidaa
open Go.RowKit

theorem val_lt_top {b : Nat} {zs : List Nat} (h : Dg b zs) (m : Nat) (ht : ∀ t, m ≤ t → nth zs t = 0) : val b zs < b ^ m ∨ b = 0 := by
  rcases Nat.eq_zero_or_pos b with hb | hb
  · exact .inr hb
  · left
    by_cases hm : zs.length ≤ m
    · exact Nat.lt_of_lt_of_le (val_lt h) (Nat.pow_le_pow_right hb hm)
    · have e := val_take_drop b zs m (by omega)
      have hz : zs.drop m = List.replicate (zs.length - m) 0 := by
        apply List.ext_getElem (by simp)
        intro i h1 h2
        rw [List.length_drop] at h1
        rw [List.getElem_drop, List.getElem_replicate, ← nth_lt (by omega)]
        exact ht _ (by omega)
      rw [hz, val_zeros, Nat.mul_zero, Nat.add_zero] at e
      rw [e]
      have := val_lt (h.take m)
      rwa [List.length_take, Nat.min_eq_left (by omega)] at this

theorem subW_wrapG {x c y : Nat} (hx : x < 4294967296) (hc : c < 4294967296) (hy : y < 4294967296) : IntKind.u64.wrap (IntKind.u64.wrap ((x : Int) - c) - y) = (subW x c y : Int) := by
  rw [wrap_u64, wrap_u64]
  unfold subW
  split <;> omega

theorem subW_cases {x c y : Nat} (hx : x < 4294967296) (hc : c < 4294967296) (hy : y ≤ 1) :
    (c + y ≤ x ∧ subW x c y % 4294967296 = x - c - y ∧ subW x c y / 9223372036854775808 = 0) ∨ (x < c + y ∧ subW x c y % 4294967296 = x + 4294967296 - c - y ∧ subW x c y / 9223372036854775808 = 1) := by
  unfold subW
  split
  · left; omega
  · right; omega

theorem subW_eq {x c y : Nat} (hx : x < 4294967296) (hc : c < 4294967296) (hy : y ≤ 1) : subW x c y % 4294967296 + c + y = x + 4294967296 * (subW x c y / 9223372036854775808) ∧ subW x c y / 9223372036854775808 ≤ 1 := by
  rcases subW_cases hx hc hy with ⟨h1, h2, h3⟩ | ⟨h1, h2, h3⟩ <;> rw [h2, h3] <;> omega

structure RedInv (us ys zs : List Nat) (q i k c bo : Nat) : Prop where
  len : zs.length = us.length
  dg : Dg 4294967296 zs
  car : c < 4294967296
  bor : bo ≤ 1
  eq : val 4294967296 zs + 4294967296 ^ i * (q * val 4294967296 (ys.take k)) = val 4294967296 us + 4294967296 ^ (i + k) * (c + bo)
  top : ∀ t, i + k ≤ t → nth zs t = nth us t

theorem RedInv.zero {us ys : List Nat} (h : Dg 4294967296 us) (q i : Nat) : RedInv us ys us q i 0 0 0 := ⟨rfl, h, by omega, by omega, by simp [val], fun _ _ => rfl⟩

theorem RedInv.step {us ys zs : List Nat} {q i k c bo : Nat} (h : RedInv us ys zs q i k c bo) (hq : q < 4294967296) (hy : Dg 4294967296 ys) (hi : i + k < us.length) :
    RedInv us ys (zs.set (i + k) (subW (nth zs (i + k)) ((q * nth ys k + c) % 4294967296) bo % 4294967296)) q i (k + 1) ((q * nth ys k + c) / 4294967296)
      (subW (nth zs (i + k)) ((q * nth ys k + c) % 4294967296) bo / 9223372036854775808) := by
  have b1 := mul_bd hq (hy.nth (by omega) k)
  have b2 := h.dg.nth (by omega) (i + k)
  have b3 := h.car
  have hpm : (q * nth ys k + c) % 4294967296 < 4294967296 := Nat.mod_lt _ (by omega)
  have hw := subW_eq b2 hpm h.bor
  have hpe := Nat.mod_add_div (q * nth ys k + c) 4294967296
  have hc' : (q * nth ys k + c) / 4294967296 < 4294967296 := by omega
  generalize hd : subW (nth zs (i + k)) ((q * nth ys k + c) % 4294967296) bo / 9223372036854775808 = bo' at *
  generalize he : subW (nth zs (i + k)) ((q * nth ys k + c) % 4294967296) bo % 4294967296 = d at *
  have hdl : d < 4294967296 := by rw [← he]; exact Nat.mod_lt _ (by omega)
  have hv := val_set 4294967296 zs (i + k) d (by rw [h.len]; exact hi)
  refine ⟨by rw [List.length_set, h.len], h.dg.set _ hdl, hc', hw.2, ?_, ?_⟩
  · have e := h.eq
    rw [val_take_succ, Nat.mul_add q, Nat.mul_add (4294967296 ^ i)]
    have e3 : 4294967296 ^ i * (q * (4294967296 ^ k * nth ys k)) = 4294967296 ^ (i + k) * (q * nth ys k) := by
      rw [Nat.pow_add]; simp only [Nat.mul_assoc, Nat.mul_left_comm]
    rw [e3, ← Nat.add_assoc i k 1, Nat.pow_succ 4294967296 (i + k), Nat.mul_assoc]
    clear hd he hc' b1 b2 b3 hdl
    generalize 4294967296 ^ (i + k) = p at *
    generalize (q * nth ys k + c) / 4294967296 = c' at *
    generalize (q * nth ys k + c) % 4294967296 = pm at *
    generalize nth zs (i + k) = z at *
    generalize q * nth ys k = m at *
    have f1 : p * d + p * pm + p * bo = p * z + p * (4294967296 * bo') := by rw [← Nat.mul_add, ← Nat.mul_add, ← Nat.mul_add, hw.1]
    have f2 : p * pm + p * (4294967296 * c') = p * m + p * c := by rw [← Nat.mul_add, ← Nat.mul_add, hpe]
    rw [Nat.mul_add, Nat.mul_add p]
    rw [Nat.mul_add] at e
    omega
  · intro t ht
    rw [nth_set_ne _ _ _ _ (by omega)]
    exact h.top t (by omega)

/-- The subtraction's last step: the word above. -/
theorem RedInv.last {us ys zs : List Nat} {q i c bo : Nat} (h : RedInv us ys zs q i ys.length c bo) (hi : i + ys.length < us.length) (htop : ∀ t, i + ys.length < t → nth us t = 0) :
    (zs.set (i + ys.length) (subW (nth zs (i + ys.length)) c bo % 4294967296)).length = us.length ∧
    Dg 4294967296 (zs.set (i + ys.length) (subW (nth zs (i + ys.length)) c bo % 4294967296)) ∧
    val 4294967296 (zs.set (i + ys.length) (subW (nth zs (i + ys.length)) c bo % 4294967296)) + 4294967296 ^ i * (q * val 4294967296 ys) =
      val 4294967296 us + 4294967296 ^ (i + ys.length + 1) * (subW (nth zs (i + ys.length)) c bo / 9223372036854775808) ∧
    (∀ t, i + ys.length < t → nth (zs.set (i + ys.length) (subW (nth zs (i + ys.length)) c bo % 4294967296)) t = 0) := by
  have hw := subW_eq (h.dg.nth (by omega) (i + ys.length)) h.car h.bor
  generalize hd : subW (nth zs (i + ys.length)) c bo / 9223372036854775808 = bo' at *
  generalize he : subW (nth zs (i + ys.length)) c bo % 4294967296 = d at *
  have hdl : d < 4294967296 := by rw [← he]; exact Nat.mod_lt _ (by omega)
  have hv := val_set 4294967296 zs (i + ys.length) d (by rw [h.len]; exact hi)
  refine ⟨by rw [List.length_set, h.len], h.dg.set _ hdl, ?_, ?_⟩
  · have e := h.eq
    rw [val_take_ge _ (Nat.le_refl _)] at e
    rw [Nat.pow_succ, Nat.mul_assoc]
    clear hd he hdl
    generalize 4294967296 ^ (i + ys.length) = p at *
    generalize nth zs (i + ys.length) = z at *
    have f1 : p * d + p * c + p * bo = p * z + p * (4294967296 * bo') := by rw [← Nat.mul_add, ← Nat.mul_add, ← Nat.mul_add, hw.1]
    rw [Nat.mul_add] at e
    omega
  · intro t ht
    rw [nth_set_ne _ _ _ _ (by omega), h.top t (by omega)]
    exact htop t ht

/-- What reduce leaves: the list, and the digit. -/
structure RedPost (us ys zs : List Nat) (i q' : Nat) : Prop where
  len : zs.length = us.length
  dg : Dg 4294967296 zs
  eq : val 4294967296 zs + q' * (4294967296 ^ i * val 4294967296 ys) = val 4294967296 us
  lt : val 4294967296 zs < 4294967296 ^ i * val 4294967296 ys
  q : q' < 4294967296

theorem red_back {us ys zs1 zs2 : List Nat} {q i c : Nat} (hq : q < 4294967296) (hd1 : Dg 4294967296 zs1) (hl1 : zs1.length = us.length) (hi : i + ys.length < us.length)
    (e1 : val 4294967296 zs1 + 4294967296 ^ i * (q * val 4294967296 ys) = val 4294967296 us + 4294967296 ^ (i + ys.length + 1) * 1)
    (t1 : ∀ t, i + ys.length < t → nth zs1 t = 0) (h2 : MulIn ys zs1 zs2 1 i ys.length c) (hlow : (q - 1) * (4294967296 ^ i * val 4294967296 ys) ≤ val 4294967296 us) :
    1 ≤ q ∧ RedPost us ys (zs2.set (i + ys.length) ((nth zs2 (i + ys.length) + c) % 4294967296)) i (q - 1) := by
  have hb2 := h2.dg.nth (by omega) (i + ys.length)
  have hc := h2.car
  have hov : (nth zs2 (i + ys.length) + c) / 4294967296 ≤ 1 := by omega
  have hme := Nat.mod_add_div (nth zs2 (i + ys.length) + c) 4294967296
  have hml : (nth zs2 (i + ys.length) + c) % 4294967296 < 4294967296 := Nat.mod_lt _ (by omega)
  generalize (nth zs2 (i + ys.length) + c) / 4294967296 = ov at *
  generalize (nth zs2 (i + ys.length) + c) % 4294967296 = d at *
  have hv := val_set 4294967296 zs2 (i + ys.length) d (by rw [h2.len, hl1]; exact hi)
  have hd3 : Dg 4294967296 (zs2.set (i + ys.length) d) := h2.dg.set _ hml
  have t3 : ∀ t, i + ys.length + 1 ≤ t → nth (zs2.set (i + ys.length) d) t = 0 := fun t ht => by
    rw [nth_set_ne _ _ _ _ (by omega), h2.top t (by omega)]; exact t1 t (by omega)
  have b1 := (val_lt_top hd1 (i + ys.length + 1) (fun t ht => t1 t (by omega))).resolve_right (by omega)
  have b3 := (val_lt_top hd3 (i + ys.length + 1) t3).resolve_right (by omega)
  have e2 := h2.eq
  rw [val_take_ge _ (Nat.le_refl _), Nat.one_mul] at e2
  have hl3 : (zs2.set (i + ys.length) d).length = us.length := by rw [List.length_set, h2.len, hl1]
  suffices hh : 1 ≤ q ∧ val 4294967296 (zs2.set (i + ys.length) d) + (q - 1) * (4294967296 ^ i * val 4294967296 ys) = val 4294967296 us ∧ val 4294967296 (zs2.set (i + ys.length) d) < 4294967296 ^ i * val 4294967296 ys from
    ⟨hh.1, hl3, hd3, hh.2.1, hh.2.2, by omega⟩
  generalize val 4294967296 (zs2.set (i + ys.length) d) = z3 at *
  generalize val 4294967296 zs2 = z2 at *
  generalize val 4294967296 zs1 = z1 at *
  generalize val 4294967296 us = u at *
  have ep : 4294967296 ^ (i + ys.length + 1) = 4294967296 ^ (i + ys.length) * 4294967296 := Nat.pow_succ ..
  generalize 4294967296 ^ (i + ys.length + 1) = P1 at *
  generalize 4294967296 ^ (i + ys.length) = P at *
  have e4 : 4294967296 ^ i * (q * val 4294967296 ys) = q * (4294967296 ^ i * val 4294967296 ys) := Nat.mul_left_comm ..
  rw [e4] at e1
  generalize 4294967296 ^ i * val 4294967296 ys = W at *
  generalize nth zs2 (i + ys.length) = y at *
  have f : P * d + P * (4294967296 * ov) = P * y + P * c := by rw [← Nat.mul_add, ← Nat.mul_add, hme]
  have f2 : P * (4294967296 * ov) = P1 * ov := by rw [ep, Nat.mul_assoc]
  have hq1 : 1 ≤ q := by
    rcases Nat.eq_zero_or_pos q with h0 | h0
    · subst h0; rw [Nat.zero_mul] at e1; omega
    · exact h0
  obtain ⟨r, rfl⟩ : ∃ r, q = r + 1 := ⟨q - 1, by omega⟩
  rw [Nat.add_sub_cancel] at hlow
  rw [Nat.add_sub_cancel]
  rw [Nat.add_mul, Nat.one_mul] at e1
  have ho : ov = 1 := by
    rcases Nat.lt_or_ge ov 1 with h | h
    · have : ov = 0 := by omega
      subst this
      rw [Nat.mul_zero] at f2
      omega
    · omega
  subst ho
  rw [Nat.mul_one] at f2 e1
  refine ⟨by omega, ?_, ?_⟩ <;> omega

theorem grown_set {w w1 : World} {g : Nat} (h : w.grownBy w1 (some g)) (o : Nat) (v : Value) : w.grownBy (w1.setCell ⟨g, o, none⟩ v) (some g) :=
  ⟨h.os, h.tape, h.output, by simpa [World.setCell] using h.size, fun k hk hne => by
    rw [Below.heap_setCell _ _ _ _ (by intro e; exact hne (by rw [e]))]; exact h.block k hk hne⟩
theorem grown_drewN {w w1 : World} {g : Nat} (h : w.grownBy w1 (some g)) (n : Nat) : w.grownBy (w1.drewN n) (some g) := ⟨h.os, h.tape, h.output, h.size, h.block⟩
theorem grown_cell {w w1 : World} {g b o : Nat} (h : w.grownBy w1 (some g)) (hb : b ≠ g) (hl : b < w.heap.size) : w1.cell? ⟨b, o, none⟩ = w.cell? ⟨b, o, none⟩ :=
  World.cell?_of_block (a := ⟨b, o, none⟩) (h.block b hl (by intro e; exact hb (Option.some.inj e)))

def RetRed (w : World) (g : Nat) (us ys : List Nat) (i : Nat) (e : Ending) (w' : World) : Prop :=
  ∃ zs q', e = .returned (.int .u32 (q' : Nat)) ∧ RedPost us ys zs i q' ∧ Own w' .u32 115 g zs ∧ w.grownBy w' (some g)

set_option maxHeartbeats 2000000 in
theorem reduce_any {w : World} {g cap : Nat} {us ys : List Nat} {q i : Nat} {vv : Value} (hu : Own w .u32 115 g us) (hcap : us.length ≤ cap) (hcap2 : cap ≤ 1099511627776) (hdu : Dg 4294967296 us) (hv : Sl w .u32 vv ys)
    (hdy : Dg 4294967296 ys) (hq : q < 4294967296) (hlen : i + ys.length < us.length) (hgv : ∀ ao n cap b off, SlAt w .u32 ao n cap b off ys → vv = .slice ao n cap → 0 < n → b ≠ g)
    (htop : ∀ t, i + ys.length < t → nth us t = 0) (h1 : val 4294967296 us < (q + 1) * (4294967296 ^ i * val 4294967296 ys)) (h2 : (q - 1) * (4294967296 ^ i * val 4294967296 ys) ≤ val 4294967296 us) :
    Calls Try.prog 131 #[.slice (some ⟨g, 0, none⟩) us.length cap, vv, .int .i64 i, .int .u64 q] w
      (RetRed w g us ys i) := by
  obtain ⟨ao2, n2, cap2, b2, off2, rfl, hs2⟩ := hv
  have hle2 := hs2.le
  have hmax2 := hs2.max
  have hgb := hgv _ _ _ _ _ hs2 rfl
  have HLY := Lib.hid hs2.len
  rw [hs2.len] at hlen htop
  obtain ⟨N, hN⟩ : ∃ N, N = us.length := ⟨_, rfl⟩
  rw [← hN] at hcap hlen ⊢
  have HN := Lib.hid hN
  have H1 := Lib.hid h1
  have H2 := Lib.hid h2
  have HT := Lib.hid htop
  clear hN h1 h2 htop hgv
  go_enter Try.func131, Try.ntmps131
  go_wp2
  go_loopw [9, 10, 19] (fun c bo k wr => ∃ (j cc bb : Nat) (zs : List Nat), j ≤ n2 ∧ k = .int .i64 j ∧ c = .int .u64 cc ∧ bo = .int .u64 bb ∧ RedInv us ys zs q i j cc bb ∧ Own wr .u32 115 g zs ∧ w.grownBy wr (some g))
    (fun _ _ k _ => n2 - (intOf k).toNat)
  case atStart => exact ⟨0, 0, 0, us, Nat.zero_le _, rfl, rfl, rfl, RedInv.zero hdu q i, hu, World.grownBy.refl _ _⟩
  case round =>
    obtain ⟨j, cc, bb, zs, hj, rfl, rfl, rfl, hinv, hown, hkeep⟩ := hrel
    have hcc := hinv.car
    have hbb := hinv.bor
    have HLZ : Hid (zs.length = N) := by rw [hinv.len]; exact HN.out.symm
    have ho : wr.cell? ⟨g, i + j, none⟩ = some (.int .u32 (nth zs (i + j))) := hown.cell (by rw [HLZ.out]; omega)
    have hf := hown.frozen (i + j)
    have hz := hinv.dg.nth (by omega) (i + j)
    by_cases hlt : j < n2
    · obtain rfl := hs2.addr.resolve_right (by omega)
      have hc2 : wr.cell? ⟨b2, off2 + j, none⟩ = some (.int .u32 (nth ys j)) := by
        rw [grown_cell hkeep (hgb (by omega)) (hs2.lt (by omega))]; exact hs2.cells j hlt
      have hy := hdy.nth (by omega) j
      have HF := Lib.hid (hinv.step hq hdy (by rw [← HN.out]; omega))
      obtain ⟨hb', hb0⟩ := mul_bdI hq hy
      have hpm : (q * nth ys j + cc) % 4294967296 < 4294967296 := Nat.mod_lt _ (by omega)
      have HW := Lib.hid (subW_wrapG (x := nth zs (i + j)) (c := (q * nth ys j + cc) % 4294967296) (y := bb) hz hpm (by omega))
      clear hpm
      have e0 : (q : Int) * (nth ys j : Int) + (cc : Int) = ((q * nth ys j + cc : Nat) : Int) := by rw [Int.natCast_add, Int.natCast_mul]
      have E0 := Lib.hid e0
      clear e0
      go_wp2
      rw [E0.out, show ((q * nth ys j + cc : Nat) : Int) % 4294967296 = (((q * nth ys j + cc) % 4294967296 : Nat) : Int) by omega, HW.out]
      go_roundw
      case rel =>
        refine ⟨j + 1, _, _, _, by omega, by go_num, ?_, ?_, HF.out, ?_, grown_set hkeep _ _⟩
        · refine congrArg _ ?_; omega
        · refine congrArg _ ?_; omega
        · exact hown.seti (i + j) _ (by omega)
      case measure => simp [intOf]; omega
    · obtain rfl : j = n2 := by omega
      have HLs := HLY.out
      subst HLs
      have hla := hinv.last (by rw [← HN.out]; exact hlen) HT.out
      obtain ⟨L1, L2, L3, L4⟩ := hla
      have hw := subW_wrapG (x := nth zs (i + ys.length)) (c := cc) (y := bb) hz hcc (by omega)
      have hsb := (subW_eq hz hcc hbb).2
      have hsl : subW (nth zs (i + ys.length)) cc bb < 18446744073709551616 := by unfold subW; split <;> omega
      generalize subW (nth zs (i + ys.length)) cc bb = S at *
      have hown1 := hown.seti (i + ys.length) (z := (S : Int) % 4294967296) (S % 4294967296) (by omega)
      have hkeep1 := grown_set hkeep (i + ys.length) (.int .u32 ((S : Int) % 4294967296))
      have O1 := Lib.hid hown1
      have P3 := Lib.hid L3
      have P1 := Lib.hid L1
      have P4 := Lib.hid L4
      clear hown1 L3 L1 L4
      by_cases hs0 : S < 9223372036854775808
      · have hS : ((S : Int) / 9223372036854775808 == 0) = true := beq_iff_eq.2 (by omega)
        have hfin : RedPost us ys (zs.set (i + ys.length) (S % 4294967296)) i q := by
          have e := P3.out
          rw [Nat.div_eq_of_lt hs0, Nat.mul_zero, Nat.add_zero, Nat.mul_left_comm] at e
          refine ⟨P1.out, L2, e, ?_, hq⟩
          have := H1.out
          rw [Nat.add_mul, Nat.one_mul] at this
          omega
        have HF := Lib.hid hfin
        clear hfin hs0 hsb hsl
        go_wp2
        go_ret
        refine ⟨_, q, ?_, HF.out, O1.out, hkeep1⟩
        rfl
      · have hS : (9223372036854775808 : Int) ≤ (S : Int) := by omega
        have hb1 : S / 9223372036854775808 = 1 := by omega
        have e1 := P3.out
        rw [hb1] at e1
        have E1 := Lib.hid e1
        clear e1 hb1 hs0 hsb
        go_wp2
        obtain ⟨wo, rfl⟩ : ∃ wo : World, wo = wr := ⟨_, rfl⟩
        obtain ⟨zs1, hz1⟩ : ∃ zs1, zs1 = zs.set (i + ys.length) (S % 4294967296) := ⟨_, rfl⟩
        rw [← hz1] at O1 P1 P4 L2 E1
        clear hz1 hinv hown
        go_loopw [9, 83] (fun c k w2 => ∃ (j cc : Nat) (zs2 : List Nat), j ≤ ys.length ∧ k = .int .i64 j ∧ c = .int .u64 cc ∧ MulIn ys zs1 zs2 1 i j cc ∧ Own w2 .u32 115 g zs2 ∧ w.grownBy w2 (some g))
          (fun _ k _ => ys.length - (intOf k).toNat)
        case atStart => exact ⟨0, 0, zs1, Nat.zero_le _, rfl, rfl, MulIn.zero L2 1 i, O1.out, hkeep1⟩
        case round =>
          obtain ⟨k, c2, zs2, hk, rfl, rfl, hin, hown2, hkeep2⟩ := hrel
          clear hkeep hkeep1 hcc hbb hw hS hz
          have hc2 := hin.car
          have HLZ2 : Hid (zs2.length = N) := by rw [hin.len, P1.out]; exact HN.out.symm
          by_cases hlt2 : k < ys.length
          · obtain rfl := hs2.addr.resolve_right (by omega)
            have hcv : wr.cell? ⟨b2, off2 + k, none⟩ = some (.int .u32 (nth ys k)) := by
              rw [grown_cell hkeep2 (hgb (by omega)) (hs2.lt (by omega))]; exact hs2.cells k hlt2
            have ho2 : wr.cell? ⟨g, i + k, none⟩ = some (.int .u32 (nth zs2 (i + k))) := hown2.cell (by rw [HLZ2.out]; omega)
            have hf2 := hown2.frozen (i + k)
            have hy := hdy.nth (by omega) k
            have hz := hin.dg.nth (by omega) (i + k)
            have HF := hin.step (by omega) hdy (by rw [P1.out, ← HN.out]; omega)
            rw [Nat.one_mul] at HF
            have HF := Lib.hid HF
            have e2 : IntKind.u64.wrap ((nth zs2 (i + k) : Int) + (nth ys k : Int)) = (nth zs2 (i + k) : Int) + (nth ys k : Int) := IntWalk.u64_in _ (by omega)
            have e3 : IntKind.u64.wrap ((nth zs2 (i + k) : Int) + (nth ys k : Int) + (c2 : Int)) = (nth zs2 (i + k) : Int) + (nth ys k : Int) + (c2 : Int) := IntWalk.u64_in _ (by omega)
            go_wp2
            go_quiet (fail)
            clear e2 e3
            go_wp2
            go_roundw
            case rel =>
              refine ⟨k + 1, _, _, by omega, by go_num, ?_, HF.out, ?_, grown_set (grown_drewN hkeep2 _) _ _⟩
              · refine congrArg _ ?_; omega
              · exact (hown2.drewN _).seti (i + k) _ (by omega)
            case measure => simp [intOf]; omega
          · obtain rfl : k = ys.length := by omega
            have hz := hin.dg.nth (by omega) (i + ys.length)
            have ho2 : wr.cell? ⟨g, i + ys.length, none⟩ = some (.int .u32 (nth zs2 (i + ys.length))) := hown2.cell (by rw [HLZ2.out]; omega)
            have hf2 := hown2.frozen (i + ys.length)
            have HF := Lib.hid (red_back hq L2 P1.out (by rw [← HN.out]; exact hlen) E1.out P4.out hin H2.out)
            go_wp2
            go_ret
            have hq1 := HF.out.1
            refine ⟨_, q - 1, ?_, HF.out.2, hown2.seti (i + ys.length) _ ?_, grown_set hkeep2 _ _⟩
            · refine congrArg Ending.returned ?_
              show Value.int .u32 _ = _
              refine congrArg _ ?_
              rw [wrap_u64]; omega
            · omega

end Go.Proofs.Ytppbhjhbaknidaa

/-
  The long division's invariant, in plain Lean: no program. No condition.
-/
namespace Go.Proofs.Ytppbhjhbaknidaa

theorem nth_zero_of_lt {b : Nat} (hb : 0 < b) {xs : List Nat} {k : Nat} (h : val b xs < b ^ k) (t : Nat) (ht : k ≤ t) : nth xs t = 0 := by
  by_cases hl : t < xs.length
  · rcases Nat.eq_zero_or_pos (nth xs t) with h0 | h0
    · exact h0
    · exfalso
      have e := val_at b xs t hl
      have h1 : b ^ k ≤ b ^ t := Nat.pow_le_pow_right hb ht
      have h2 : b ^ t * 1 ≤ b ^ t * (nth xs t + b * val b (xs.drop (t + 1))) := Nat.mul_le_mul_left _ (by omega)
      omega
  · exact nth_ge (by omega)

theorem val_zero_of {b : Nat} {xs : List Nat} (h : ∀ i, nth xs i = 0) : val b xs = 0 := by
  rw [← val_trim, trim_zero xs h]; rfl

theorem val_take_of_zero {b : Nat} {xs : List Nat} {k : Nat} (h : ∀ t, k ≤ t → nth xs t = 0) : val b (xs.take k) = val b xs := by
  by_cases hk : k ≤ xs.length
  · have e := val_take_drop b xs k hk
    have hz : val b (xs.drop k) = 0 := val_zero_of (fun i => by rw [nth_drop]; exact h _ (by omega))
    rw [hz, Nat.mul_zero, Nat.add_zero] at e
    exact e.symm
  · exact val_take_ge b (by omega)

theorem val_top3 {b : Nat} {xs : List Nat} {p : Nat} (h : ∀ t, p + 3 ≤ t → nth xs t = 0) :
    val b xs = val b (xs.take p) + b ^ p * ((nth xs (p + 2) * b + nth xs (p + 1)) * b + nth xs p) := by
  rw [← val_take_of_zero h, show p + 3 = p + 1 + 1 + 1 by omega, val_take_succ, val_take_succ, val_take_succ, Nat.pow_succ b (p + 1), Nat.pow_succ b p]
  have e1 : b ^ p * b * nth xs (p + 1) = b ^ p * (nth xs (p + 1) * b) := by simp only [Nat.mul_assoc, Nat.mul_comm, Nat.mul_left_comm]
  have e2 : b ^ p * b * b * nth xs (p + 1 + 1) = b ^ p * (nth xs (p + 2) * b * b) := by simp only [Nat.mul_assoc, Nat.mul_comm, Nat.mul_left_comm]
  rw [e1, e2, Nat.mul_add, Nat.add_mul, Nat.mul_add]
  omega

theorem val_top2 {b : Nat} {xs : List Nat} {p : Nat} (h : xs.length = p + 2) :
    val b xs = val b (xs.take p) + b ^ p * (nth xs (p + 1) * b + nth xs p) := by
  rw [← val_take_ge b (Nat.le_of_eq h), show p + 2 = p + 1 + 1 by omega, val_take_succ, val_take_succ, Nat.pow_succ]
  have e1 : b ^ p * b * nth xs (p + 1) = b ^ p * (nth xs (p + 1) * b) := by simp only [Nat.mul_assoc, Nat.mul_comm, Nat.mul_left_comm]
  rw [e1, Nat.mul_add]
  omega

structure DivInv (A V : Nat) (us qs : List Nat) (N L j : Nat) : Prop where
  len : us.length = N
  dg : Dg 4294967296 us
  lenq : qs.length = L - j
  dgq : Dg 4294967296 qs
  eq : val 4294967296 us + V * 4294967296 ^ j * val 4294967296 qs = A
  lt : val 4294967296 us < V * 4294967296 ^ j

/-- What the estimate needs, and what it gives, at one digit. -/
structure DivStep (us ys : List Nat) (i p : Nat) : Prop where
  pre : (nth us (i + p + 2) * 4294967296 + nth us (i + p + 1)) * 4294967296 + nth us (i + p) < (nth ys (p + 1) * 4294967296 + nth ys p + 1) * 4294967296
  top : ∀ t, i + (p + 2) < t → nth us t = 0
  h1 : val 4294967296 us < (estQ ((nth us (i + p + 2) * 4294967296 + nth us (i + p + 1)) * 4294967296 + nth us (i + p)) (nth ys (p + 1) * 4294967296 + nth ys p) + 1) * (4294967296 ^ i * val 4294967296 ys)
  h2 : (estQ ((nth us (i + p + 2) * 4294967296 + nth us (i + p + 1)) * 4294967296 + nth us (i + p)) (nth ys (p + 1) * 4294967296 + nth ys p) - 1) * (4294967296 ^ i * val 4294967296 ys) ≤ val 4294967296 us
  ql : estQ ((nth us (i + p + 2) * 4294967296 + nth us (i + p + 1)) * 4294967296 + nth us (i + p)) (nth ys (p + 1) * 4294967296 + nth ys p) < 4294967296

theorem div_core {x l V2 U3 Q P R B : Nat} (hB : 0 < B) (hl : l < P) (hV2 : B ≤ V2 + 1) (hV : V2 * P ≤ R) (hV' : R < (V2 + 1) * P) (hx1 : U3 * P ≤ x) (hx2 : x < (U3 + 1) * P)
    (hlt : x < R * B) (hQ : Q = min (U3 / V2) (B - 1)) (hV0 : 0 < V2) :
    U3 < (V2 + 1) * B ∧ x < (Q + 1) * R ∧ (Q - 1) * R ≤ x ∧ Q < B := by
  have hP : 0 < P := by omega
  have g0 : U3 < (V2 + 1) * B := by
    have h1 : U3 * P < (V2 + 1) * P * B := Nat.lt_of_le_of_lt hx1 (Nat.lt_of_lt_of_le hlt (Nat.mul_le_mul_right _ (Nat.le_of_lt hV')))
    rw [Nat.mul_right_comm] at h1
    exact Nat.lt_of_mul_lt_mul_right h1
  refine ⟨g0, ?_, ?_, by omega⟩
  · rcases Nat.lt_or_ge (U3 / V2) (B - 1) with h | h
    · have hq : Q = U3 / V2 := by omega
      have h1 : U3 < (Q + 1) * V2 := by rw [hq]; exact (Nat.div_lt_iff_lt_mul hV0).1 (Nat.lt_succ_self _)
      have h2 : (U3 + 1) * P ≤ (Q + 1) * V2 * P := Nat.mul_le_mul_right _ h1
      have h3 : (Q + 1) * (V2 * P) ≤ (Q + 1) * R := Nat.mul_le_mul_left _ hV
      rw [← Nat.mul_assoc] at h3
      omega
    · have hq : Q + 1 = B := by omega
      rw [hq, Nat.mul_comm]; exact hlt
  · rcases Nat.eq_zero_or_pos Q with h | h
    · subst h; simp
    · obtain ⟨r, hr⟩ : ∃ r, Q = r + 1 := ⟨Q - 1, by omega⟩
      rw [hr, Nat.add_sub_cancel]
      have h1 : Q * V2 ≤ U3 := by
        refine Nat.le_trans (Nat.mul_le_mul_right _ (show Q ≤ U3 / V2 by omega)) (Nat.div_mul_le_self _ _)
      have h2 : r * R ≤ r * ((V2 + 1) * P) := Nat.mul_le_mul_left _ (Nat.le_of_lt hV')
      have h3 : r * (V2 + 1) ≤ U3 := by
        rw [hr, Nat.add_mul, Nat.one_mul] at h1
        rw [Nat.mul_add, Nat.mul_one]
        omega
      have h4 : r * (V2 + 1) * P ≤ U3 * P := Nat.mul_le_mul_right _ h3
      rw [Nat.mul_assoc] at h4
      omega

theorem DivInv.est {A : Nat} {us ys qs : List Nat} {N L i p : Nat} (h : DivInv A (val 4294967296 ys) us qs N L (i + 1)) (hy : Dg 4294967296 ys) (hp : ys.length = p + 2) (hv1 : 2147483648 ≤ nth ys (p + 1)) :
    DivStep us ys i p := by
  have hVlt := val_lt hy
  rw [hp] at hVlt
  have hus : val 4294967296 us < 4294967296 ^ (i + p + 3) := by
    have h1 := h.lt
    have h2 : val 4294967296 ys * 4294967296 ^ (i + 1) ≤ 4294967296 ^ (p + 2) * 4294967296 ^ (i + 1) := Nat.mul_le_mul_right _ (Nat.le_of_lt hVlt)
    rw [← Nat.pow_add, show p + 2 + (i + 1) = i + p + 3 by omega] at h2
    omega
  have htop := nth_zero_of_lt (by omega) hus
  have e3 := val_top3 (b := 4294967296) (xs := us) (p := i + p) htop
  have e2 := val_top2 (b := 4294967296) hp
  have hl := val_lt (h.dg.take (i + p))
  have hl2 := val_lt (hy.take p)
  have hlen1 : (us.take (i + p)).length ≤ i + p := by rw [List.length_take]; omega
  have hlen2 : (ys.take p).length ≤ p := by rw [List.length_take]; omega
  have hl' := Nat.lt_of_lt_of_le hl (Nat.pow_le_pow_right (show 0 < 4294967296 by omega) hlen1)
  have hl2' := Nat.lt_of_lt_of_le hl2 (Nat.pow_le_pow_right (show 0 < 4294967296 by omega) hlen2)
  have hlt := h.lt
  rw [Nat.pow_succ, ← Nat.mul_assoc, Nat.mul_comm (val 4294967296 ys)] at hlt
  have hv0 := hy.nth (by omega) p
  rw [Nat.mul_comm (4294967296 ^ (i + p))] at e3
  rw [Nat.mul_comm (4294967296 ^ p)] at e2
  have hV2 : 4294967296 ≤ nth ys (p + 1) * 4294967296 + nth ys p + 1 := by omega
  have hV0 : 0 < nth ys (p + 1) * 4294967296 + nth ys p := by omega
  have hpp : 4294967296 ^ (i + p) = 4294967296 ^ i * 4294967296 ^ p := Nat.pow_add ..
  clear hl hl2 hlen1 hlen2 hv0 hv1 hVlt hus
  have key := div_core (x := val 4294967296 us) (l := val 4294967296 (us.take (i + p))) (V2 := nth ys (p + 1) * 4294967296 + nth ys p)
    (U3 := (nth us (i + p + 2) * 4294967296 + nth us (i + p + 1)) * 4294967296 + nth us (i + p))
    (Q := estQ ((nth us (i + p + 2) * 4294967296 + nth us (i + p + 1)) * 4294967296 + nth us (i + p)) (nth ys (p + 1) * 4294967296 + nth ys p))
    (P := 4294967296 ^ (i + p)) (R := 4294967296 ^ i * val 4294967296 ys) (B := 4294967296) (by omega) hl' hV2 ?_ ?_ ?_ ?_ hlt rfl hV0
  · exact ⟨key.1, fun t ht => htop t (by omega), key.2.1, key.2.2.1, key.2.2.2⟩
  · rw [hpp, Nat.mul_left_comm]
    refine Nat.mul_le_mul_left _ ?_
    rw [e2]; exact Nat.le_add_left _ _
  · rw [hpp, Nat.mul_left_comm]
    refine Nat.mul_lt_mul_of_pos_left ?_ (Nat.pow_pos (by omega))
    rw [e2, Nat.add_mul (nth ys (p + 1) * 4294967296 + nth ys p) 1, Nat.one_mul, Nat.add_comm]
    exact Nat.add_lt_add_left hl2' _
  · rw [e3]; exact Nat.le_add_left _ _
  · rw [e3, Nat.add_mul ((nth us (i + p + 2) * 4294967296 + nth us (i + p + 1)) * 4294967296 + nth us (i + p)) 1, Nat.one_mul, Nat.add_comm]
    exact Nat.add_lt_add_left hl' _

theorem DivInv.step {A : Nat} {us ys qs zs : List Nat} {N L i q' : Nat} (h : DivInv A (val 4294967296 ys) us qs N L (i + 1)) (hL : i < L) (r : RedPost us ys zs i q') :
    DivInv A (val 4294967296 ys) zs (q' :: qs) N L i := by
  refine ⟨by rw [r.len, h.len], r.dg, by rw [List.length_cons, h.lenq]; omega, ?_, ?_, ?_⟩
  · intro x hx
    rcases List.mem_cons.1 hx with hx | hx
    · rw [hx]; exact r.q
    · exact h.dgq x hx
  · have e := h.eq
    have e2 := r.eq
    rw [Nat.pow_succ] at e
    rw [val, Nat.mul_add]
    have e3 : val 4294967296 ys * 4294967296 ^ i * q' = q' * (4294967296 ^ i * val 4294967296 ys) := by simp only [Nat.mul_comm]
    have e4 : val 4294967296 ys * 4294967296 ^ i * (4294967296 * val 4294967296 qs) = val 4294967296 ys * (4294967296 ^ i * 4294967296) * val 4294967296 qs := by simp only [Nat.mul_assoc]
    rw [e3, e4, ← e, ← e2]
    omega
  · rw [Nat.mul_comm]; exact r.lt

theorem DivInv.done {m n s : Nat} {us qs : List Nat} {N L : Nat} (h : DivInv (m * P2 s) (n * P2 s) us qs N L 0) (hn : 0 < n) :
    val 4294967296 qs = m / n ∧ val 4294967296 us = (m % n) * P2 s := by
  have e := h.eq
  have l := h.lt
  rw [Nat.pow_zero, Nat.mul_one] at e l
  have hp : 0 < n * P2 s := Nat.mul_pos hn (P2_pos s)
  have h1 : m * P2 s / (n * P2 s) = val 4294967296 qs := by
    rw [← e, Nat.add_mul_div_left _ _ hp, Nat.div_eq_of_lt l, Nat.zero_add]
  have h2 : m * P2 s % (n * P2 s) = val 4294967296 us := by
    rw [← e, Nat.add_mul_mod_self_left, Nat.mod_eq_of_lt l]
  rw [Nat.mul_div_mul_right _ _ (P2_pos s)] at h1
  rw [Nat.mul_mod_mul_right] at h2
  exact ⟨h1.symm, h2.symm⟩

/-- A number of just k words, the top bit set. -/
theorem top_set {ys : List Nat} (h : Can 4294967296 ys) {k : Nat} (hk : 1 ≤ k) (h1 : val 4294967296 ys < P2 (32 * k)) (h2 : P2 (32 * k - 1) ≤ val 4294967296 ys) :
    ys.length = k ∧ 2147483648 ≤ nth ys (k - 1) := by
  have hl := h.len_P2 h1
  have hv := val_lt h.1
  rw [P2_32] at hv
  have hge : 32 * k - 1 < 32 * ys.length := P2_lt (Nat.lt_of_le_of_lt h2 hv)
  have hlen : ys.length = k := by omega
  refine ⟨hlen, ?_⟩
  have e := val_at 4294967296 ys (k - 1) (by omega)
  rw [show k - 1 + 1 = ys.length by omega, List.drop_of_length_le (Nat.le_refl _)] at e
  simp only [val, Nat.mul_zero, Nat.add_zero] at e
  have ht := val_lt (h.1.take (k - 1))
  rw [List.length_take, Nat.min_eq_left (by omega), P2_32] at ht
  rw [P2_32] at e
  rw [show 32 * k - 1 = 32 * (k - 1) + 31 by omega, P2_add] at h2
  rcases Nat.lt_or_ge (nth ys (k - 1)) 2147483648 with hc | hc
  · exfalso
    have e31 : P2 31 = 2147483648 := rfl
    have : P2 (32 * (k - 1)) * (nth ys (k - 1) + 1) ≤ P2 (32 * (k - 1)) * P2 31 := Nat.mul_le_mul_left _ (by omega)
    rw [Nat.mul_add, Nat.mul_one] at this
    omega
  · exact hc

end Go.Proofs.Ytppbhjhbaknidaa

/-
  The contract of the program's divMod: quotient and remainder. Conditions: the divisor is not 0; numbers of at most 2^32 bits.
-/
namespace Go.Proofs.Ytppbhjhbaknidaa
open Go.RowKit

def RetNN (w : World) (m n : Nat) (e : Ending) (w' : World) : Prop := ∃ v1 v2, e = .returned (.tuple #[v1, v2]) ∧ IsN w' v1 m ∧ IsN w' v2 n ∧ Below w.heap.size w w'

theorem cmpI_lt {m n : Nat} (h : m < n) : cmpI m n = -1 := by simp [cmpI, h]
theorem cmpI_ge {m n : Nat} (h : n ≤ m) : 0 ≤ cmpI m n := by
  unfold cmpI; split
  · omega
  · split <;> omega

/-- The divisor is greater. -/
theorem divMod_less {w : World} {va vb : Value} {m n : Nat} (ha : IsN w va m) (hb : IsN w vb n) (h : m < n) :
    Calls Try.prog 111 #[va, vb] w (RetNN w (m / n) (m % n)) := by
  rw [Nat.div_eq_of_lt h, Nat.mod_eq_of_lt h]
  have hc := cmp_any ha hb
  rw [cmpI_lt h] at hc
  have HC := Lib.hid hc
  clear hc
  go_enter Try.func111, Try.ntmps111
  go_wp2_with fail
  refine HC.out.mono ?_
  rintro e w1 ⟨rfl, b1⟩
  go_wp2
  go_ret2
  exact ⟨_, _, rfl, IsN.zero _, ha.below b1, b1⟩

/-- The divisor is one word. -/
theorem divMod_word {w : World} {va vb : Value} {m n : Nat} (ha : IsN w va m) (hb : IsN w vb n) (h : n ≤ m) (h1 : 1 ≤ n) (h2 : n < 4294967296) (L : Nat) (hL : L ≤ 4294967296) (hm : m < P2 L) :
    Calls Try.prog 111 #[va, vb] w (RetNN w (m / n) (m % n)) := by
  have hc := cmp_any ha hb
  have hge := cmpI_ge h
  have hcs : (cmpI m n) ≤ 1 := by unfold cmpI; split <;> (try split) <;> omega
  generalize cmpI m n = z at *
  have HC := Lib.hid hc
  clear hc
  have hmod : m % n < 4294967296 := Nat.lt_trans (Nat.mod_lt _ h1) h2
  obtain ⟨ys, hb, hcb, hvb⟩ := hb
  have hlen := hcb.len_P2 (L := 32) (by rw [hvb]; exact h2)
  obtain ⟨ao2, n2, cap2, b2, off2, rfl, hs2⟩ := hb
  rw [hs2.len] at hlen
  have hn1 : 1 ≤ n2 := by
    rcases Nat.eq_zero_or_pos n2 with h0 | h0
    · have : ys = [] := List.eq_nil_of_length_eq_zero (by rw [hs2.len, h0])
      subst this; simp [val] at hvb; omega
    · exact h0
  obtain rfl : n2 = 1 := by omega
  have hy0 : nth ys 0 = n := by
    obtain ⟨y, rfl⟩ := List.length_eq_one_iff.1 hs2.len
    simpa [val, nth] using hvb
  obtain rfl := hs2.addr.resolve_right (by omega)
  have hc0 := hs2.cells 0 (by omega)
  rw [hy0] at hc0
  have HDW := Lib.hid (fun (w' : World) (hw : IsN w' va m) => divWord_any hw n h1 h2 L (by omega) hm)
  clear hm hvb hy0
  generalize m % n = r at *
  generalize m / n = qq at *
  go_enter Try.func111, Try.ntmps111
  go_wp2_with fail
  refine HC.out.mono ?_
  rintro e w1 ⟨rfl, b1⟩
  have hc1 : w1.cell? ⟨b2, off2 + 0, none⟩ = some (.int .u32 n) := by rw [b1.cell (p := ⟨b2, off2 + 0, none⟩) (hs2.lt (by omega))]; exact hc0
  rw [Nat.add_zero] at hc1
  clear hc0
  go_wp2_with fail
  refine (HDW.out _ (ha.below b1)).mono ?_
  rintro e w2 ⟨v2, rfl, i2, b2'⟩
  have B2 := nextB b1 b2'
  clear b2' hc1
  go_wp2_with fail
  refine (words_any _ _ (by omega) (by omega)).mono ?_
  rintro e w3 ⟨v3, rfl, i3, b3⟩
  rw [Int.toNat_natCast] at i3
  have B3 := nextB B2 b3
  have i23 := i2.below b3
  go_wp2
  go_ret2
  exact ⟨_, _, rfl, i23, i3, B3⟩

theorem IsN.sl {w : World} {v : Value} {n : Nat} (h : IsN w v n) : ∃ xs ao k cap b off, v = .slice ao k cap ∧ SlAt w .u32 ao k cap b off xs ∧ Can 4294967296 xs ∧ val 4294967296 xs = n := by
  obtain ⟨xs, ⟨ao, k, cap, b, off, hv, hs⟩, hc, hn⟩ := h
  exact ⟨xs, ao, k, cap, b, off, hv, hs, hc, hn⟩

/-- The shift that sets the top bit of the divisor. -/
theorem shift_top {ys : List Nat} (h : Can 4294967296 ys) (hn : ys ≠ []) :
    ∃ s : Nat, (32 : Int) - (blen (nth ys (ys.length - 1)) : Int) = (s : Int) ∧ s ≤ 31 ∧ val 4294967296 ys * P2 s < P2 (32 * ys.length) ∧ P2 (32 * ys.length - 1) ≤ val 4294967296 ys * P2 s := by
  obtain ⟨e, b1, b2⟩ := blen_top h hn
  have hl : 0 < ys.length := List.length_pos_iff.2 hn
  refine ⟨32 - blen (nth ys (ys.length - 1)), by omega, by omega, ?_, ?_⟩
  · have h1 := lt_blen (n := val 4294967296 ys)
    have h2 : val 4294967296 ys * P2 (32 - blen (nth ys (ys.length - 1))) < P2 (blen (val 4294967296 ys)) * P2 (32 - blen (nth ys (ys.length - 1))) := Nat.mul_lt_mul_of_pos_right h1 (P2_pos _)
    rw [← P2_add, e, show 32 * (ys.length - 1) + blen (nth ys (ys.length - 1)) + (32 - blen (nth ys (ys.length - 1))) = 32 * ys.length by omega] at h2
    exact h2
  · have h1 : P2 (blen (val 4294967296 ys) - 1) ≤ val 4294967296 ys := by
      rcases Nat.lt_or_ge (val 4294967296 ys) (P2 (blen (val 4294967296 ys) - 1)) with hc | hc
      · have := blen_le.2 hc; omega
      · exact hc
    have h2 := Nat.mul_le_mul_right (P2 (32 - blen (nth ys (ys.length - 1)))) h1
    rw [← P2_add, e, show 32 * (ys.length - 1) + blen (nth ys (ys.length - 1)) - 1 + (32 - blen (nth ys (ys.length - 1))) = 32 * ys.length - 1 by omega] at h2
    exact h2

/-- The estimate's needs and gifts, by the places as the program reckons them. -/
structure DivStep2 (us ys : List Nat) (i n Q : Nat) : Prop where
  pre : (nth us (i + n) * 4294967296 + nth us (i + n - 1)) * 4294967296 + nth us (i + n - 2) < (nth ys (n - 1) * 4294967296 + nth ys (n - 2) + 1) * 4294967296
  top : ∀ t, i + ys.length < t → nth us t = 0
  h1 : val 4294967296 us < (Q + 1) * (4294967296 ^ i * val 4294967296 ys)
  h2 : (Q - 1) * (4294967296 ^ i * val 4294967296 ys) ≤ val 4294967296 us
  ql : Q < 4294967296

theorem DivInv.est2 {A : Nat} {us ys qs : List Nat} {N L i n : Nat} (h : DivInv A (val 4294967296 ys) us qs N L (i + 1)) (hy : Dg 4294967296 ys) (hn : 2 ≤ n) (hp : ys.length = n) (hv1 : 2147483648 ≤ nth ys (n - 1)) :
    DivStep2 us ys i n (estQ ((nth us (i + n) * 4294967296 + nth us (i + n - 1)) * 4294967296 + nth us (i + n - 2)) (nth ys (n - 1) * 4294967296 + nth ys (n - 2))) := by
  obtain ⟨p, rfl⟩ : ∃ p, n = p + 2 := ⟨n - 2, by omega⟩
  have e := h.est hy hp hv1
  have a1 : i + (p + 2) - 1 = i + p + 1 := by omega
  have a2 : i + (p + 2) - 2 = i + p := by omega
  have a3 : p + 2 - 1 = p + 1 := by omega
  have a4 : p + 2 - 2 = p := by omega
  rw [a1, a2, a3, a4]
  exact ⟨e.pre, by rw [hp]; exact e.top, e.h1, e.h2, e.ql⟩

theorem DivInv.zero {us : List Nat} {A V N k n s : Nat} (hl : us.length = N) (hd : Dg 4294967296 us) (hv : val 4294967296 us = A) (hn : n ≤ k + 1) (h1 : A < P2 (32 * k + s)) (hs : s ≤ 31) (hn1 : 1 ≤ n) (h2 : P2 (32 * n - 1) ≤ V) :
    DivInv A V us [] N (k + 1 - n) (k + 1 - n) := by
  refine ⟨hl, hd, by simp, Dg.nil _, by simp [val, hv], ?_⟩
  rw [hv, P2_32]
  have h3 : P2 (32 * n - 1) * P2 (32 * (k + 1 - n)) ≤ V * P2 (32 * (k + 1 - n)) := Nat.mul_le_mul_right _ h2
  rw [← P2_add] at h3
  exact Nat.lt_of_lt_of_le (lt_P2_mono h1 (by omega)) h3

theorem Own.grown {w w' : World} {K : IntKind} {E : TypeId} {g g' : Nat} {xs : List Nat} (h : Own w K E g xs) (hg : w.grownBy w' (some g')) (hne : g ≠ g') : Own w' K E g xs := by
  unfold Own at h ⊢
  rw [hg.block g (Array.getElem?_eq_some_iff.1 h).1 (by intro e; exact hne (Option.some.inj e))]; exact h
theorem SlAt.grown {w w' : World} {K : IntKind} {n cap b off g' : Nat} {xs : List Nat} (h : SlAt w K (some ⟨b, off, none⟩) n cap b off xs) (hg : w.grownBy w' (some g')) (hne : b ≠ g') : SlAt w' K (some ⟨b, off, none⟩) n cap b off xs :=
  { h with cells := fun i hi => by rw [grown_cell hg hne (h.lt (by omega))]; exact h.cells i hi }
theorem SlAt.below' {w w' : World} {K : IntKind} {ao : Option Addr} {n cap b off B : Nat} {xs : List Nat} (h : SlAt w K ao n cap b off xs) (hb : Below B w w') (hB : b < B) : SlAt w' K ao n cap b off xs :=
  { h with cells := fun i hi => by rw [hb.cell (p := ⟨b, off + i, none⟩) hB]; exact h.cells i hi }
theorem grown_below {w w1 w2 : World} {g : Nat} (h : Below w.heap.size w w1) (hg : w1.grownBy w2 (some g)) (hle : w.heap.size ≤ g) : Below w.heap.size w w2 :=
  h.grown hg h.size (fun k hk => by cases hk; exact hle)
theorem Own.setOther {w : World} {K : IntKind} {E : TypeId} {g : Nat} {xs : List Nat} (h : Own w K E g xs) {g' : Nat} (o : Nat) (v : Value) (hne : g ≠ g') : Own (w.setCell ⟨g', o, none⟩ v) K E g xs := by
  unfold Own at h ⊢
  rw [Below.heap_setCell _ _ _ _ hne]; exact h
theorem SlAt.setOther {w : World} {K : IntKind} {ao : Option Addr} {n cap b off : Nat} {xs : List Nat} (h : SlAt w K ao n cap b off xs) {g' : Nat} (o : Nat) (v : Value) (hne : b ≠ g') : SlAt (w.setCell ⟨g', o, none⟩ v) K ao n cap b off xs :=
  { h with cells := fun i hi => (World.cell?_of_block (w := w) (a := ⟨b, off + i, none⟩) (Below.heap_setCell w ⟨g', o, none⟩ v b hne)).trans (h.cells i hi) }

set_option maxRecDepth 100000 in
set_option maxHeartbeats 2000000 in
theorem divMod_long {w : World} {va vb : Value} {m n : Nat} (ha : IsN w va m) (hb : IsN w vb n) (h : n ≤ m) (h1 : 4294967296 ≤ n) (L : Nat) (hL : L ≤ 4294967296) (hm : m < P2 L) :
    Calls Try.prog 111 #[va, vb] w (RetNN w (m / n) (m % n)) := by
  have hc := cmp_any ha hb
  have hge := cmpI_ge h
  have hcs : (cmpI m n) ≤ 1 := by unfold cmpI; split <;> (try split) <;> omega
  generalize cmpI m n = z at *
  have HC := Lib.hid hc
  clear hc
  obtain ⟨xs, aoa, k, capa, ba, offa, rfl, hsa, hca, hva⟩ := ha.sl
  obtain ⟨ys, aob, nb, capb, bb, offb, rfl, hsb, hcb, hvb⟩ := hb.sl
  have lk := hca.len_P2 (by rw [hva]; exact hm)
  have lkn := hcb.len_le (by omega) (show val 4294967296 ys < 4294967296 ^ xs.length by
    have := val_lt hca.1
    rw [hva] at this; rw [hvb]; omega)
  have hnb2 : 2 ≤ nb := by
    rcases Nat.lt_or_ge nb 2 with h0 | h0
    · exfalso
      have := val_lt hcb.1
      have h2 : 4294967296 ^ ys.length ≤ 4294967296 ^ 1 := Nat.pow_le_pow_right (by omega) (by rw [hsb.len]; omega)
      rw [Nat.pow_one] at h2
      omega
    · exact h0
  rw [hsa.len] at lk lkn
  rw [hsb.len] at lkn
  have hyne : ys ≠ [] := fun h0 => by have := hsb.len; rw [h0] at this; simp at this; omega
  obtain ⟨s, hs1, hs31, hs2, hs3⟩ := shift_top hcb hyne
  rw [hsb.len] at hs1 hs2 hs3
  rw [hvb] at hs2 hs3
  have hd := hcb.1.nth (by omega) (nb - 1)
  have hlea := hsa.le
  have hmaxa := hsa.max
  have hleb := hsb.le
  have hmaxb := hsb.max
  obtain rfl := hsb.addr.resolve_right (by omega)
  have hc1 := hsb.cells (nb - 1) (by omega)
  have hbb := hsb.lt (by omega)
  have hAs : m * P2 s < P2 (32 * k + s) := by
    have h2 := val_lt hca.1
    rw [hva, hsa.len, P2_32] at h2
    rw [P2_add]
    exact Nat.mul_lt_mul_of_pos_right h2 (P2_pos s)
  have HS1 := Lib.hid hs1
  have HAs := Lib.hid hAs
  have HS2 := Lib.hid hs2
  have HS3 := Lib.hid hs3
  have HM := Lib.hid hm
  have HNM := Lib.hid h
  have H1 := Lib.hid h1
  clear hs1 hva hvb hyne hAs hs2 hs3 hm h h1 hca hcb hsa hsb
  generalize nth ys (nb - 1) = d at *
  go_enter Try.func111, Try.ntmps111
  go_wp2_with fail
  refine HC.out.mono ?_
  rintro e w1 ⟨rfl, b1⟩
  have hc2 : w1.cell? ⟨bb, offb + (nb - 1), none⟩ = some (.int .u32 d) := by rw [b1.cell (p := ⟨bb, offb + (nb - 1), none⟩) hbb]; exact hc1
  clear hc1
  go_wp2_with fail
  refine (Try.bits_LeadingZeros32 _ _ (by omega) (by omega)).mono ?_
  rintro e w1' ⟨rfl, hw⟩
  subst hw
  rw [Int.toNat_natCast, bitLen_eq (by omega), HS1.out]
  go_wp2_with fail
  refine (lsh_any (hb.below b1) (s : Int) (by omega) (by omega) (L + 32) (by omega) (lt_P2_mono (Nat.lt_of_le_of_lt HNM.out HM.out) (by omega))).mono ?_
  rintro e w2 ⟨vv, rfl, iv, b2⟩
  rw [Int.toNat_natCast] at iv
  have B2 := nextB b1 b2
  clear hc2 b1 b2
  obtain ⟨vs, aov, nv, capv, bv, offv, rfl, hsv, hcv, hvv⟩ := iv.sl
  obtain ⟨hvl, hvt⟩ := top_set hcv (k := nb) (by omega) (by rw [hvv]; exact HS2.out) (by rw [hvv]; exact HS3.out)
  rw [hsv.len] at hvl
  subst hvl
  obtain rfl := hsv.addr.resolve_right (by omega)
  have hlev := hsv.le
  have hmaxv := hsv.max
  have hbv := hsv.lt (by omega)
  have HVT := Lib.hid hvt
  have HVV := Lib.hid hvv
  clear hvt hvv iv
  go_wp2_with (first | (at_make; refine wpList_make_nums _ rfl _ _ 23 rfl 115 .u32 4 Try.underlying23 (by kernel_rfl) .i64 .i64 _ _ (k + 1) rfl rfl rfl rfl (by omega) (by omega) ?_; intro w3 hown3 b3))
  have B3 := nextB B2 b3
  refine (lsh_any (ha.below B3) (s : Int) (by omega) (by omega) (L + 32) (by omega) (lt_P2_mono HM.out (by omega))).mono ?_
  rintro e w4 ⟨va, rfl, iu, b4⟩
  rw [Int.toNat_natCast] at iu
  have B4 := nextB B3 b4
  have hown4 := hown3.below b4 hown3.lt
  have hsv4 := (hsv.below b3).below b4
  have hg2 := hown3.lt
  clear hown3
  obtain ⟨us, aou, ku, capu, bu, offu, rfl, hsu, hcu, hvu⟩ := iu.sl
  have lku := hcu.len_P2 (by rw [hvu]; exact HAs.out)
  rw [hsu.len] at lku
  go_wp2_with (with_reducible refine wpList_copy_nums rfl (.tmp 49) (.tmp 52) 23 23 rfl 115 Try.underlying23 ?c1 ?d1 ?d2 ?d3 ?c2 .u32 ?d4 ?d5 ?d6 bu offu us ?c3 ?c4 w2.heap.size 0 (List.replicate (k + 1) 0) 115 ?c5 ku ?c6 ?c7 ?c8 w2.heap.size w4 ?c9 ?c10 ?c11)
  case c1 => kernel_rfl
  case c2 => exact rfl
  case c3 => exact rfl
  case c4 => exact hsu
  case c5 => exact hown4
  case c6 => exact (Nat.min_eq_left (by omega)).symm
  case c7 => exact fun _ => rfl
  case c8 => simp; omega
  case c9 => exact Below.refl _ _
  case c10 => exact Nat.le_refl _
  intro w5 hown5 b5
  rw [List.take_of_length_le (by rw [hsu.len]; omega)] at hown5
  have hsv5 := hsv4.below' b5 hbv
  have B5 := B4.trans (b5.mono B2.size)
  have HI0 := Lib.hid (DivInv.zero (V := val 4294967296 vs) (N := k + 1) (k := k) (n := nv) (s := s) (us := us ++ List.replicate (k + 1 - ku) 0) (by rw [List.length_append, hsu.len, List.length_replicate]; omega)
    (hcu.1.append (Dg.zeros (by omega) _)) (by rw [val_append, val_zeros, Nat.mul_zero, Nat.add_zero, hvu]) (by omega) HAs.out hs31 (by omega) (by rw [HVV.out]; exact HS3.out))
  generalize us ++ List.replicate (k + 1 - ku) 0 = U0 at *
  clear hown4 hsv4 hsv b5 b4 b3 hsu hcu hvu lku
  go_wp2_with (first | (at_make; refine wpList_make_nums _ rfl _ _ 23 rfl 115 .u32 4 Try.underlying23 (by kernel_rfl) .i64 .i64 _ _ (k + 1 - nv) rfl rfl (by omega) (by omega) (by omega) (by omega) ?_; intro w6 hown6 b6))
  have hgq : w2.heap.size < w5.heap.size := hown5.lt
  have hu6 := hown5.below b6 hgq
  have hv6 := hsv5.below' b6 (by omega)
  have B6 := nextB B5 b6
  have hw2 := B2.size
  have hbv2 : bv ≠ w2.heap.size := by omega
  have hbvq : bv ≠ w5.heap.size := by omega
  clear hown5 hsv5 b6
  obtain ⟨gu, hgu⟩ : ∃ gu, gu = w2.heap.size := ⟨_, rfl⟩
  obtain ⟨gq, hgq'⟩ : ∃ gq, gq = w5.heap.size := ⟨_, rfl⟩
  rw [← hgu] at hgq hbv2 hu6 hw2 ⊢
  rw [← hgq'] at hgq hown6 hbvq ⊢
  have hgqs : w.heap.size ≤ gq := by rw [hgq']; exact B5.size
  clear hgu hgq'
  go_loopw [13] (fun i wr => ∃ (j : Nat) (us qs : List Nat), j ≤ k + 1 - nv ∧ i = .int .i64 ((j : Int) - 1) ∧ DivInv (m * P2 s) (val 4294967296 vs) us qs (k + 1) (k + 1 - nv) j ∧ Own wr .u32 115 gu us ∧ Own wr .u32 115 gq (List.replicate j 0 ++ qs) ∧
      SlAt wr .u32 (some ⟨bv, offv, none⟩) nv capv bv offv vs ∧ Below w.heap.size w wr)
    (fun i _ => (intOf i + 1).toNat)
  case atStart =>
    refine ⟨k + 1 - nv, U0, [], Nat.le_refl _, ?_, HI0.out, hu6, by simpa using hown6, hv6, B6⟩
    refine congrArg _ ?_; omega
  case round =>
    obtain ⟨j, us, qs, hj, rfl, hinv, hou, hoq, hv, hB⟩ := hrel
    have hsv' := hv6
    clear hown6 hu6 B6 hv6
    by_cases h0 : j = 0
    · subst h0
      rw [List.replicate_zero, List.nil_append] at hoq
      have hd0 : decide ((0 : Int) ≤ ((0 : Nat) : Int) - 1) = false := rfl
      have hinv2 : DivInv (m * P2 s) (n * P2 s) us qs (k + 1) (k + 1 - nv) 0 := by rw [← HVV.out]; exact hinv
      obtain ⟨hq1, hu1⟩ := hinv2.done (by have := H1.out; omega)
      clear hinv2
      have hul : val 4294967296 us < 4294967296 ^ nv := by
        have h1 := hinv.lt
        have h2 := val_lt hcv.1
        rw [hsv'.len] at h2
        rw [Nat.pow_zero, Nat.mul_one] at h1
        omega
      have hut : val 4294967296 (us.take nv) = m % n * P2 s := by rw [val_take_of_zero (nth_zero_of_lt (by omega) hul), hu1]
      obtain ⟨tq, N0, i0⟩ := norm_part (hoq.slAt (n := k + 1 - nv) hinv.lenq (by omega) hinv.dgq.wf32) hinv.dgq
      obtain ⟨tu, N1, i1⟩ := norm_part ((hou.slAt (n := k + 1) hinv.len (by omega) hinv.dg.wf32).head (m := nv) (by omega)) (hinv.dg.take nv)
      rw [hq1] at i0
      rw [hut] at i1
      have hrs := fun (W : World) (hW : IsN W (.slice (some ⟨gu, 0, none⟩) tu tu) (m % n * P2 s)) => rsh_any hW (s : Int) (by omega) (by omega) (L + 32) (by omega) (lt_P2_mono (mul_lt_P2 (Nat.lt_of_le_of_lt (Nat.mod_le _ _) HM.out) (show P2 s < P2 (s + 1) by rw [P2_succ]; have := P2_pos s; omega)) (by omega))
      rw [Int.toNat_natCast, Nat.mul_div_cancel _ (P2_pos s)] at hrs
      have HR := Lib.hid hrs
      clear hrs hq1 hul hut hu1 hinv
      go_wp2_with fail
      refine wp_region_still_tail 7 (by kernel_rfl) (by kernel_rfl) ?_
      simp only [List.take_succ_cons, List.take_zero, List.drop_succ_cons, List.drop_zero]
      still_step
      still_call (N0.out _ rfl)
      have hcut : (nv : Int) ≤ (k : Int) + 1 := by omega
      still_step
      still_step
      still_step
      still_call (N1.out _ rfl)
      still_step
      refine wpStill_nil ?_
      go_wp2_with fail
      have hd1 : Below wr.heap.size wr wr.drew := (Below.refl _ _).drew
      refine (HR.out _ (i1.below hd1)).mono ?_
      rintro e w9 ⟨v9, rfl, i9, b9⟩
      have i09 := (i0.below hd1).below b9
      have hB9 := nextB (nextB hB hd1) b9
      go_wp2
      go_ret2
      exact ⟨_, _, rfl, i09, i9, hB9⟩
    · obtain ⟨i, rfl⟩ : ∃ i, j = i + 1 := ⟨j - 1, by omega⟩
      rw [show ((i + 1 : Nat) : Int) - 1 = (i : Int) by omega]
      have hds := hinv.est2 hcv.1 (by omega) hsv'.len HVT.out
      have HD := Lib.hid hds
      have hql := hds.ql
      clear hds
      have hlu := hinv.len
      have HLU := Lib.hid hlu
      have r0 : wr.cell? ⟨gu, i + nv, none⟩ = some (.int .u32 (nth us (i + nv))) := hou.cell (by omega)
      have r1 : wr.cell? ⟨gu, i + nv - 1, none⟩ = some (.int .u32 (nth us (i + nv - 1))) := hou.cell (by omega)
      have r2 : wr.cell? ⟨gu, i + nv - 2, none⟩ = some (.int .u32 (nth us (i + nv - 2))) := hou.cell (by omega)
      have r3 := hv.cells (nv - 1) (by omega)
      have r4 := hv.cells (nv - 2) (by omega)
      have d0 := hinv.dg.nth (by omega) (i + nv)
      have d1 := hinv.dg.nth (by omega) (i + nv - 1)
      have d2 := hinv.dg.nth (by omega) (i + nv - 2)
      have d3 := hcv.1.nth (by omega) (nv - 1)
      have d4 := hcv.1.nth (by omega) (nv - 2)
      have hest := fun w => estimate_any w _ _ _ _ _ d0 d1 d2 HVT.out d3 d4 HD.out.pre
      have HEst := Lib.hid hest
      clear hest hlu
      obtain ⟨Q, hQ⟩ : ∃ Q, Q = estQ ((nth us (i + nv) * 4294967296 + nth us (i + nv - 1)) * 4294967296 + nth us (i + nv - 2)) (nth vs (nv - 1) * 4294967296 + nth vs (nv - 2)) := ⟨_, rfl⟩
      rw [← hQ] at HD HEst hql
      clear hQ
      go_wp2
      go_quiet ((go_at_call 130; (with_reducible exact Calls.quiet_of (HEst.out _))))
      go_wp2_with fail
      have hlv : vs.length = nv := hsv'.len
      have hr := fun q => reduce_any (w := wr.drewN q) (g := gu) (cap := k + 1) (us := us) (ys := vs) (q := Q) (i := i) (vv := .slice (some ⟨bv, offv, none⟩) nv capv) (hou.drewN q) (Nat.le_of_eq HLU.out) (by omega) hinv.dg (hv.drewN q).sl hcv.1 hql (by rw [HLU.out, hlv]; omega)
        (by
          intro ao n cap b off h e hn
          cases e
          rcases h.addr with h' | h'
          · cases h'; exact hbv2
          · cases h'.1) HD.out.top HD.out.h1 HD.out.h2
      rw [HLU.out] at hr
      refine (hr _).mono ?_
      rintro e w8 ⟨zs, q', rfl, hpost, ho8, hg8⟩
      clear hr hlv r0 r1 r2 r3 r4
      have hoq8 := (hoq.drewN _).grown hg8 (by omega)
      have hv8 := (hv.drewN _).grown hg8 hbv2
      have hB8 := grown_below (below_drewN' hB _) hg8 (by omega)
      have hqc : w8.cell? ⟨gq, i, none⟩ = some (.int .u32 (nth (List.replicate (i + 1) 0 ++ qs) i)) := hoq8.cell (by rw [List.length_append, List.length_replicate]; omega)
      have hqf := hoq8.frozen i
      have HN := Lib.hid (hinv.step (by omega) hpost)
      have hq' := hpost.q
      go_wp2
      go_roundw
      case rel =>
        refine ⟨i, zs, q' :: qs, by omega, rfl, HN.out, ho8.setOther i _ (by omega), ?_, hv8.setOther i _ hbvq, hB8.setCell hgqs _⟩
        rw [← set_front]
        exact hoq8.seti i _ rfl
      case measure => simp [intOf]

theorem divMod_any {w : World} {va vb : Value} {m n : Nat} (ha : IsN w va m) (hb : IsN w vb n) (hn : 0 < n) (L : Nat) (hL : L ≤ 4294967296) (hm : m < P2 L) :
    Calls Try.prog 111 #[va, vb] w (RetNN w (m / n) (m % n)) := by
  rcases Nat.lt_or_ge m n with h | h
  · exact divMod_less ha hb h
  · rcases Nat.lt_or_ge n 4294967296 with h1 | h1
    · exact divMod_word ha hb h hn h1 L hL hm
    · exact divMod_long ha hb h h1 L hL hm
#print axioms divMod_any

end Go.Proofs.Ytppbhjhbaknidaa

/-
  The contracts of the program's gcd and sqrt. Condition: numbers of at most 2^31 bits.
-/
namespace Go.Proofs.Ytppbhjhbaknidaa
open Go.RowKit

theorem len_zero {xs : List Nat} (h : Can 4294967296 xs) : xs.length = 0 ↔ val 4294967296 xs = 0 := by
  constructor
  · intro h0; rw [List.eq_nil_of_length_eq_zero h0]; rfl
  · intro h0; rw [h.zero (by omega) h0]; rfl

set_option maxHeartbeats 1000000 in
theorem gcd_any {w : World} {va vb : Value} {m n : Nat} (ha : IsN w va m) (hb : IsN w vb n) (L : Nat) (hL : L ≤ 4294967296) (hm : m < P2 L) (hn : n < P2 L) :
    Calls Try.prog 106 #[va, vb] w (RetN w (Nat.gcd m n)) := by
  go_enter Try.func106, Try.ntmps106
  go_wp2
  go_loopg [0, 1] n (fun g a b wr => ∃ p : Nat, IsN wr a p ∧ IsN wr b g ∧ p < P2 L ∧ g < P2 L ∧ Nat.gcd p g = Nat.gcd m n ∧ Below w.heap.size w wr)
  case atStart => exact ⟨m, ha, hb, hm, hn, rfl, Below.refl _ _⟩
  case round =>
    obtain ⟨p, ia, ib, hp, hg, hgcd, hB⟩ := hrel
    obtain ⟨ys, ao, k, cap, b, off, rfl, hs, hc, hv⟩ := ib.sl
    have hz := len_zero hc
    rw [hs.len, hv] at hz
    have HG := Lib.hid hgcd
    clear hgcd
    by_cases h0 : k = 0
    · have hd : decide ((0 : Int) < (k : Int)) = false := decide_eq_false (by omega)
      have hg0 : gk = 0 := hz.1 h0
      have hfin : Nat.gcd m n = p := by rw [← HG.out, hg0, Nat.gcd_zero_right]
      have HF := Lib.hid hfin
      clear hfin hz hg0
      go_wp2
      go_ret
      exact ⟨_, rfl, by rw [HF.out]; exact ia, hB⟩
    · have hd : decide ((0 : Int) < (k : Int)) = true := decide_eq_true (by omega)
      have hg1 : 0 < gk := Nat.pos_of_ne_zero fun h => h0 (hz.2 h)
      clear hz
      go_wp2_with fail
      refine (divMod_any ia ib hg1 L hL hp).mono ?_
      rintro e w2 ⟨v1, v2, rfl, i1, i2, b2⟩
      have ib2 := ib.below b2
      have hB2 := nextB hB b2
      go_wp2
      go_roundg (p % gk)
      case measure => exact Nat.mod_lt _ hg1
      case rel =>
        refine ⟨gk, ib2, i2, hg, Nat.lt_trans (Nat.mod_lt _ hg1) hg, ?_, hB2⟩
        rw [← HG.out, Nat.gcd_comm gk, ← Nat.gcd_rec, Nat.gcd_comm]

def IsSqrt (r m : Nat) : Prop := r * r ≤ m ∧ m < (r + 1) * (r + 1)

theorem amgm (x y : Nat) : 4 * (x * y) ≤ (x + y) * (x + y) := by
  rcases Nat.le_total x y with h | h
  · obtain ⟨d, rfl⟩ := Nat.exists_eq_add_of_le h
    have : (x + (x + d)) * (x + (x + d)) = 4 * (x * (x + d)) + d * d := by
      simp only [Nat.mul_add, Nat.add_mul, Nat.mul_comm]; omega
    omega
  · obtain ⟨d, rfl⟩ := Nat.exists_eq_add_of_le h
    have : (y + d + y) * (y + d + y) = 4 * ((y + d) * y) + d * d := by
      simp only [Nat.mul_add, Nat.add_mul, Nat.mul_comm]; omega
    omega

theorem newton {m x : Nat} (hx : 0 < x) : m < ((x + m / x) / 2 + 1) * ((x + m / x) / 2 + 1) := by
  have h1 := amgm x (m / x + 1)
  have h2 := Nat.lt_mul_div_succ m hx
  have h3 : x + (m / x + 1) ≤ 2 * ((x + m / x) / 2 + 1) := by omega
  have h4 := Nat.mul_le_mul h3 h3
  generalize (x + m / x) / 2 + 1 = y at *
  have h5 : 2 * y * (2 * y) = 4 * (y * y) := by rw [Nat.mul_mul_mul_comm]
  omega

theorem newton_stop {m x : Nat} (hx : 0 < x) (h : x ≤ (x + m / x) / 2) : x * x ≤ m := by
  have h1 : x ≤ m / x := by omega
  exact (Nat.le_div_iff_mul_le hx).1 h1

theorem sqrt_start {m : Nat} : m < (P2 ((blen m + 1) / 2) + 1) * (P2 ((blen m + 1) / 2) + 1) := by
  have h1 := lt_blen (n := m)
  have h2 : P2 (blen m) ≤ P2 ((blen m + 1) / 2 + (blen m + 1) / 2) := P2_mono (by omega)
  rw [P2_add] at h2
  have h3 : P2 ((blen m + 1) / 2) * P2 ((blen m + 1) / 2) ≤ (P2 ((blen m + 1) / 2) + 1) * (P2 ((blen m + 1) / 2) + 1) := Nat.mul_le_mul (by omega) (by omega)
  omega

def RetSqrt (w : World) (m : Nat) (e : Ending) (w' : World) : Prop := ∃ r, IsSqrt r m ∧ RetN w r e w'

set_option maxHeartbeats 1000000 in
theorem sqrt_any {w : World} {va : Value} {m : Nat} (ha : IsN w va m) (L : Nat) (hL : L ≤ 2147483648) (hm : m < P2 L) :
    Calls Try.prog 121 #[va] w (RetSqrt w m) := by
  obtain ⟨xs, ao, k, cap, b, off, rfl, hs, hc, hv⟩ := ha.sl
  have hz := len_zero hc
  rw [hs.len, hv] at hz
  by_cases h0 : k = 0
  · have hb : ((k : Int) == 0) = true := by simp [h0]
    have hm0 := hz.1 h0
    subst hm0
    clear hz
    go_enter Try.func121, Try.ntmps121
    go_wp2
    go_ret
    exact ⟨0, ⟨by omega, by omega⟩, _, rfl, IsN.zero _, Below.refl _ _⟩
  · have hb : ((k : Int) == 0) = false := by simp [h0]
    have hm0 : 0 < m := Nat.pos_of_ne_zero fun h => h0 (hz.2 h)
    have hbl : blen m ≤ L := blen_le.2 hm
    have HS := Lib.hid (sqrt_start (m := m))
    clear hz
    go_enter Try.func121, Try.ntmps121
    go_wp2_with fail
    refine (words_any 1 _ (by omega) (by omega)).mono ?_
    rintro e w1 ⟨v1, rfl, i1, b1⟩
    rw [show (1 : Int).toNat = 1 from rfl] at i1
    go_wp2_with fail
    refine (bitLen_any (ha.below b1) L (by omega) hm).mono ?_
    rintro e w1' ⟨rfl, hw⟩
    subst hw
    go_wp2_with fail
    refine (lsh_any i1 (((blen m : Int) + 1) / 2) (by omega) (by omega) 1 (by omega) (by unfold P2; omega)).mono ?_
    rintro e w2 ⟨v2, rfl, i2, b2⟩
    rw [show (((blen m : Int) + 1) / 2).toNat = (blen m + 1) / 2 by omega, Nat.one_mul] at i2
    have hB2 := nextB b1 b2
    have hx0 : P2 ((blen m + 1) / 2) < P2 (L + 1) := by
      have h1 : P2 ((blen m + 1) / 2) ≤ P2 L := P2_mono (by omega)
      have := P2_succ L
      have := P2_pos L
      omega
    have HX := Lib.hid hx0
    clear b1 b2 i1 hx0
    go_wp2_with fail
    go_loopg [3] (P2 ((blen m + 1) / 2)) (fun g v wr => IsN wr v g ∧ 0 < g ∧ m < (g + 1) * (g + 1) ∧ g < P2 (L + 1) ∧ Below w.heap.size w wr)
    case atStart => exact ⟨i2, P2_pos _, HS.out, HX.out, hB2⟩
    case round =>
      obtain ⟨ix, hx0, hx1, hx2, hB⟩ := hrel
      clear i2 hB2
      have HX1 := Lib.hid hx1
      clear hx1
      have hq : m / gk < P2 (L + 1) := Nat.lt_of_le_of_lt (Nat.div_le_self _ _) (lt_P2_mono hm (by omega))
      have hn1 := newton (m := m) hx0
      have hst := newton_stop (m := m) hx0
      go_wp2_with fail
      refine (divMod_any (ha.below hB) ix hx0 L (by omega) hm).mono ?_
      rintro e w3 ⟨vq, vr, rfl, iq, _, b3⟩
      have ix3 := ix.below b3
      have hB3 := nextB hB b3
      generalize m / gk = q at *
      have HN := Lib.hid hn1
      have HT := Lib.hid hst
      clear hn1 hst b3 ix
      go_wp2_with fail
      refine (add_any ix3 iq (L + 1) (by omega) hx2 hq).mono ?_
      rintro e w4 ⟨vs, rfl, is, b4⟩
      have ix4 := ix3.below b4
      have hB4 := nextB hB3 b4
      clear b4 ix3 iq
      go_wp2_with fail
      refine (rsh_any is 1 (by omega) (by omega) (L + 2) (by omega) (add_lt_P2 hx2 hq)).mono ?_
      rintro e w5 ⟨vn, rfl, inx, b5⟩
      rw [show P2 (1 : Int).toNat = 2 from rfl] at inx
      have ix5 := ix4.below b5
      have hB5 := nextB hB4 b5
      clear b5 ix4 is
      generalize hy : (gk + q) / 2 = y at *
      have hyb : y ≤ gk + q := by omega
      have HY := Lib.hid hy
      clear hy
      go_wp2_with fail
      refine (cmp_any inx ix5).mono ?_
      rintro e w6 ⟨rfl, b6⟩
      have ix6 := ix5.below b6
      have in6 := inx.below b6
      have hB6 := nextB hB5 b6
      clear b6 ix5 inx
      by_cases hc : gk ≤ y
      · have hz := cmpI_ge hc
        generalize cmpI y gk = z at *
        have hd : decide ((0 : Int) ≤ z) = true := decide_eq_true hz
        go_wp2
        go_ret
        exact ⟨gk, ⟨HT.out hc, HX1.out⟩, _, rfl, ix6, hB6⟩
      · have hz := cmpI_lt (m := y) (n := gk) (by omega)
        rw [hz]
        go_wp2
        go_roundg y
        case measure => omega
        case rel =>
          have := HN.out
          refine ⟨in6, ?_, this, by omega, hB6⟩
          rcases Nat.eq_zero_or_pos y with h | h
          · subst h; omega
          · exact h

end Go.Proofs.Ytppbhjhbaknidaa

/-
  The contracts of the program's fits, and of its exported methods that return a number and an error. Condition: numbers of at most 2^30 bits.
-/
namespace Go.Proofs.Ytppbhjhbaknidaa
open Go.RowKit

theorem IsN.slice {w : World} {v : Value} {n : Nat} (h : IsN w v n) : ∃ ao k cap, v = .slice ao k cap := by
  obtain ⟨xs, ⟨ao, k, cap, b, off, hv, hs⟩, hc, hn⟩ := h
  exact ⟨ao, k, cap, hv⟩

/-- A block of the call's own, its cells written out. -/
def Blk (w : World) (R : Nat) (cs : Array Value) (T : TypeId) : Prop := w.heap[R]? = some (.cells cs T (0, 0))
/-- None of them a number. -/
def NoInt (cs : Array Value) : Prop := ∀ (i : Nat) (K : IntKind) (z : Int), cs[i]? ≠ some (.int K z)

theorem NoInt.one {a : Option Addr} {k c : Nat} : NoInt #[.slice a k c] := by
  intro i K z h
  match i, h with
  | 0, h => simp at h
  | i + 1, h => simp at h
theorem NoInt.two {a a2 : Option Addr} {k c k2 c2 : Nat} : NoInt #[.slice a k c, .slice a2 k2 c2] := by
  intro i K z h
  match i, h with
  | 0, h => simp at h
  | 1, h => simp at h
  | i + 2, h => simp at h

theorem Blk.new (w : World) (cs : Array Value) (T : TypeId) : Blk (w.alloc (.cells cs T)) w.heap.size cs T := heap_alloc_new w _
theorem Blk.alloc {w : World} {R : Nat} {cs : Array Value} {T : TypeId} (h : Blk w R cs T) (o : Obj) : Blk (w.alloc o) R cs T := by
  unfold Blk at *
  rw [heap_alloc_old w o (Array.getElem?_eq_some_iff.1 h).1]; exact h
theorem Blk.lt {w : World} {R : Nat} {cs : Array Value} {T : TypeId} (h : Blk w R cs T) : R < w.heap.size := (Array.getElem?_eq_some_iff.1 h).1
theorem Blk.below {w w' : World} {R : Nat} {cs : Array Value} {T : TypeId} (h : Blk w R cs T) (hb : Below w.heap.size w w') : Blk w' R cs T := by
  have hl := h.lt
  unfold Blk at *
  rw [hb.block R hl]; exact h
theorem Blk.set {w : World} {R : Nat} {cs : Array Value} {T : TypeId} (h : Blk w R cs T) (i : Nat) (v : Value) : Blk (w.setCell ⟨R, i, none⟩ v) R (cs.setIfInBounds i v) T := by
  unfold Blk at *
  simp only [World.setCell, Array.getElem?_modify, h, Option.map_some, if_true]
  simp
theorem Blk.setOther {w : World} {R R' : Nat} {cs : Array Value} {T : TypeId} (h : Blk w R cs T) (i : Nat) (v : Value) (hne : R ≠ R') : Blk (w.setCell ⟨R', i, none⟩ v) R cs T := by
  unfold Blk at *
  rw [Below.heap_setCell _ _ _ _ hne]; exact h
theorem Blk.cell {w : World} {R : Nat} {cs : Array Value} {T : TypeId} (h : Blk w R cs T) (i : Nat) : w.cell? ⟨R, i, none⟩ = cs[i]? := by
  unfold Blk at h; simp [World.cell?, h]
theorem Blk.frozen {w : World} {R : Nat} {cs : Array Value} {T : TypeId} (h : Blk w R cs T) (i : Nat) : w.frozen? ⟨R, i, none⟩ = false := by
  unfold Blk at h; simp [World.frozen?, h]

theorem SlAt.blk {w : World} {K : IntKind} {ao : Option Addr} {n cap b off R : Nat} {xs : List Nat} {cs : Array Value} {T : TypeId} (h : SlAt w K ao n cap b off xs) (hb : Blk w R cs T) (hn : NoInt cs) (h0 : 0 < n) : b ≠ R := by
  intro e
  subst e
  have h1 := h.cells 0 h0
  rw [hb.cell] at h1
  exact hn _ _ _ h1

theorem Sl.setBlk {w : World} {K : IntKind} {s : Value} {xs : List Nat} {R : Nat} {cs : Array Value} {T : TypeId} (h : Sl w K s xs) (hb : Blk w R cs T) (hn : NoInt cs) (i : Nat) (v : Value) : Sl (w.setCell ⟨R, i, none⟩ v) K s xs := by
  obtain ⟨ao, n, cap, b, off, rfl, hs⟩ := h
  by_cases h0 : 0 < n
  · exact (hs.setOther i v (hs.blk hb hn h0)).sl
  · exact ⟨ao, n, cap, b, off, rfl, { hs with cells := fun j hj => by omega }⟩

theorem IsN.setBlk {w : World} {s : Value} {n R : Nat} {cs : Array Value} {T : TypeId} (h : IsN w s n) (hb : Blk w R cs T) (hn : NoInt cs) (i : Nat) (v : Value) : IsN (w.setCell ⟨R, i, none⟩ v) s n := by
  obtain ⟨xs, h1, h2, h3⟩ := h
  exact ⟨xs, h1.setBlk hb hn i v, h2, h3⟩

/-- A Nat value: one field. -/
def IsNat (w : World) (v : Value) (n : Nat) : Prop := ∃ s, v = .agg #[s] ∧ IsN w s n

theorem IsNat.below {w w' : World} {v : Value} {n : Nat} (h : IsNat w v n) (hb : Below w.heap.size w w') : IsNat w' v n :=
  let ⟨s, h1, h2⟩ := h
  ⟨s, h1, h2.below hb⟩
theorem IsNat.zero (w : World) : IsNat w (.agg #[.slice none 0 0]) 0 := ⟨_, rfl, IsN.zero w⟩

/-- A number and the error code er (0 where there is none; then the number is n, else 0). -/
def RetE (w : World) (n er : Nat) (e : Ending) (w' : World) : Prop := ∃ v, e = .returned (.tuple #[v, .int .i64 er]) ∧ IsNat w' v (if er = 0 then n else 0) ∧ Below w.heap.size w w'

def fitE (n : Nat) : Nat := if n < P2 16384 then 0 else 3

set_option maxHeartbeats 400000 in
theorem fits_any {w : World} {v : Value} {n : Nat} (ha : IsN w v n) (L : Nat) (hL : L ≤ 8589934592) (hn : n < P2 L) :
    Calls Try.prog 102 #[v] w (RetE w n (fitE n)) := by
  have hbl : blen n ≤ 16384 ↔ n < P2 16384 := blen_le
  have hbL : blen n ≤ L := blen_le.2 hn
  by_cases h : n < P2 16384
  · have hf : fitE n = 0 := if_pos h
    rw [hf]
    have hb := hbl.2 h
    clear hf hbl h
    obtain ⟨ao, k, cap, rfl⟩ := ha.slice
    go_enter Try.func102, Try.ntmps102
    go_wp2_with fail
    refine (bitLen_any (ha.below ((Below.refl _ _).alloc (Nat.le_refl _) _)) L hL hn).mono ?_
    rintro e w1 ⟨rfl, hw⟩
    subst hw
    go_wp2
    have hbel : Below w.heap.size w (w.alloc (.cells #[.slice ao k cap] 25)) := (Below.refl _ _).alloc (Nat.le_refl _) _
    exact bodyPost_ret (v := .tuple #[.agg #[.slice ao k cap], .int .i64 0]) (by simp [results, Try.results102, go_sem]) rfl ⟨_, rfl, ⟨_, rfl, ha.below hbel⟩, hbel⟩
  · have hf : fitE n = 3 := if_neg h
    rw [hf]
    have hb : ¬ blen n ≤ 16384 := fun hc => h (hbl.1 hc)
    clear hf hbl h
    obtain ⟨ao, k, cap, rfl⟩ := ha.slice
    go_enter Try.func102, Try.ntmps102
    go_wp2_with fail
    refine (bitLen_any (ha.below ((Below.refl _ _).alloc (Nat.le_refl _) _)) L hL hn).mono ?_
    rintro e w1 ⟨rfl, hw⟩
    subst hw
    go_wp2
    exact bodyPost_ret (v := .tuple #[.agg #[.slice none 0 0], .int .i64 3]) (by simp [results, Try.results102, go_sem]) rfl ⟨_, rfl, IsNat.zero _, (Below.refl _ _).alloc (Nat.le_refl _) _⟩
set_option maxHeartbeats 400000 in
theorem Add_any {w : World} {a b : Value} {m n : Nat} (ha : IsNat w a m) (hb : IsNat w b n) (L : Nat) (hL : L ≤ 1073741824) (hm : m < P2 L) (hn : n < P2 L) :
    Calls Try.prog 44 #[a, b] w (RetE w (m + n) (fitE (m + n))) := by
  obtain ⟨a, rfl, ha⟩ := ha
  obtain ⟨b, rfl, hb⟩ := hb
  obtain ⟨ao, k, cap, rfl⟩ := ha.slice
  obtain ⟨ao2, k2, cap2, rfl⟩ := hb.slice
  go_enter Try.func44, Try.ntmps44
  go_wp2_with fail
  have hB0 : Below w.heap.size w (((w.alloc (.cells #[.slice ao k cap] 25)).alloc (.cells #[.slice ao2 k2 cap2] 25)).alloc (.cells #[.slice none 0 0] 25)) :=
    (((Below.refl _ _).alloc (Nat.le_refl _) _).alloc (by simp) _).alloc (by simp; omega) _
  refine (add_any (ha.below hB0) (hb.below hB0) L (by omega) hm hn).mono ?_
  rintro e w1 ⟨v, rfl, iv, b1⟩
  go_wp2_with fail
  refine (fits_any iv (L + 1) (by omega) (add_lt_P2 hm hn)).mono ?_
  rintro e w2 ⟨v2, rfl, ⟨s2, rfl, is2⟩, b2⟩
  obtain ⟨ao3, k3, cap3, rfl⟩ := is2.slice
  have hB2 := nextB b1 b2
  have h0 := Blk.new ((w.alloc (.cells #[.slice ao k cap] 25)).alloc (.cells #[.slice ao2 k2 cap2] 25)) #[.slice none 0 0] 25
  have hz : ((w.alloc (.cells #[.slice ao k cap] 25)).alloc (.cells #[.slice ao2 k2 cap2] 25)).heap.size = w.heap.size + 1 + 1 := by simp
  rw [hz] at h0
  have rb := h0.below hB2
  have rc := rb.cell 0
  have rf := rb.frozen 0
  rw [show (#[Value.slice none 0 0] : Array Value)[0]? = some (.slice none 0 0) from rfl] at rc
  have hB := hB0.trans (hB2.mono (Nat.le_of_lt (by simp; omega)))
  go_wp2
  refine bodyPost_ret (v := .tuple #[.agg #[.slice ao3 k3 cap3], .int .i64 (fitE (m + n) : Nat)]) (by simp [results, Try.results44, go_sem, rc]) rfl ⟨_, rfl, ⟨_, rfl, is2.setBlk rb NoInt.one _ _⟩, hB.setCell (by simp; omega) _⟩

end Go.Proofs.Ytppbhjhbaknidaa

/-
  A row of numbers that grows by append: what it holds, and the law of one append. Condition: fewer than 2^40 numbers.
-/
namespace Go.Proofs.Ytppbhjhbaknidaa
open Go.RowKit

def intsOf (K : IntKind) (xs : List Nat) : List Value := xs.map fun (x : Nat) => Value.int K (x : Int)

/-- The slice v is the call's own (a block from B on, or nil) and holds just these numbers. -/
def Row (w : World) (B : Nat) (K : IntKind) (E : TypeId) (v : Value) (xs : List Nat) : Prop := w.ownsRow B E 1 v xs.length (intsOf K xs)

theorem Row.nil (w : World) (B : Nat) (K : IntKind) (E : TypeId) : Row w B K E (.slice none 0 0) [] := World.ownsRow_nil w B E 1

theorem Row.lt {w : World} {B : Nat} {K : IntKind} {E : TypeId} {v : Value} {xs : List Nat} (h : Row w B K E v xs) : ∀ k, v.ownBlock = some k → B ≤ k ∧ k < w.heap.size := World.ownsRow.lt h

theorem Row.keep {w w' : World} {B B' : Nat} {K : IntKind} {E : TypeId} {v : Value} {xs : List Nat} (h : Row w B K E v xs) (hb : Below B' w w') (hB : w.heap.size ≤ B') : Row w' B K E v xs := by
  obtain ⟨h1, h2⟩ := h
  refine ⟨h1, h2.imp id ?_⟩
  rintro ⟨g, cap, cur, hv, h3, h4, h5⟩
  refine ⟨g, cap, cur, hv, h3, ?_, h5⟩
  rw [hb.block g (Nat.lt_of_lt_of_le (Array.getElem?_eq_some_iff.1 h4).1 hB)]; exact h4

theorem Row.slice {w : World} {B : Nat} {K : IntKind} {E : TypeId} {v : Value} {xs : List Nat} (h : Row w B K E v xs) : ∃ ao cap, v = .slice ao xs.length cap := by
  rcases h.2 with ⟨h1, h2⟩ | ⟨g, cap, cur, hv, _⟩
  · exact ⟨none, 0, by rw [h1, h2]⟩
  · exact ⟨_, cap, hv⟩

theorem Row.sl {w : World} {B : Nat} {K : IntKind} {E : TypeId} {v : Value} {xs : List Nat} (h : Row w B K E v xs) (hm : xs.length ≤ 1099511627776) (hw : ∀ x ∈ xs, (Lit.int K x).wf = true) : Sl w K v xs := by
  rcases h.2 with ⟨h1, h2⟩ | ⟨g, cap, cur, hv, _, hg, hc, hcm, hs, ht⟩
  · have : xs = [] := List.length_eq_zero_iff.1 h2
    subst this
    subst h1
    exact ⟨none, 0, 0, 0, 0, rfl, ⟨rfl, Nat.le_refl _, by omega, .inr ⟨rfl, rfl, rfl⟩, fun i hi => by omega, hw⟩⟩
  · refine ⟨_, _, cap, g, 0, hv, ⟨rfl, hc, ⟨hm, by unfold maxLen at *; omega⟩, .inl rfl, fun i hi => ?_, hw⟩⟩
    have h1 : (intsOf K xs)[i]? = cur[i]? := by
      rw [← ht, List.getElem?_take_of_lt (by omega)]; simp
    have h2 : (intsOf K xs)[i]? = some (.int K (nth xs i)) := by
      simp [intsOf, nth_lt hi, hi]
    rw [Nat.zero_add]
    simp only [World.cell?, hg]
    rw [← h1, h2]
    rfl

/-- 'append(xs, d)' to a row of the call's own. -/
theorem wpList_append_row {P : Program} {ops : Array Oper} {rest : List Oper} {o : Oper} {a : Act} {Q : Exit → Act → World → Prop} (w0 : World) (hgd : o.guard = none) (s x : Operand) (t : TypeId)
    (ho : o.op = .call { callee := .builtin .append, args := #[s, x], argTypes := #[t, t] })
    (B : Nat) (E : TypeId) (K : IntKind) (bytes : Nat) (h1 : P.underlying t = some (.slice E)) (h2 : (P.info? E).map (fun i => (i.zero, i.size, i.bytes)) = some (some (.int K 0), 1, bytes)) (hb : bytes ≤ 8)
    (v : Value) (xs : List Nat) (z : Int) (d : Nat) (hs : a.eval s = v) (hrow : Row w0 B K E v xs) (hx : a.eval x = .slice (some ⟨w0.heap.size, 0, none⟩) 1 1) (hz : z = (d : Int))
    (hn : xs.length < 1099511627776) (hB : B ≤ w0.heap.size)
    (h : ∀ v' w', Row w' B K E v' (xs ++ [d]) → Below B w0 w' → (∀ k, k < w0.heap.size → v.ownBlock ≠ some k → w'.heap[k]? = w0.heap[k]?) → wpList P ops Q rest (a.put o.dst v') w') :
    wpList P ops Q (o :: rest) a (w0.alloc (.cells #[.int K z] E)) := by
  subst hz
  obtain ⟨i, hi, hz0, hz1, hz2⟩ := info_parts h2
  have hb' : (xs.length + 1) * bytes ≤ (xs.length + 1) * 8 := Nat.mul_le_mul_left _ hb
  refine wpList_append_own _ hgd s x t ho B E i (.int K 0) 1 bytes h1 hi hz0 hz1 hz2 rfl (by decide) v xs.length (intsOf K xs) hs (World.ownsRow.alloc hrow _) ⟨w0.heap.size, 0, none⟩ 1 1 [.int K d] hx rfl ?_ ?_ ?_ (by omega) (by simp; omega) ?_
  · intro j u hj
    match j, hj with
    | 0, hj => simp at hj; subst hj; simp [Addr.add]
  · intro u hu; simp at hu; subst hu; rfl
  · unfold maxLen; omega
  · intro v' w' hown hgrow _
    refine h v' w' ?_ ?_ ?_
    · simpa [Row, intsOf] using hown
    · exact ((Below.refl _ _).alloc hB _).grown hgrow (by simp; omega) (fun k hk => (hrow.lt k hk).1)
    · intro k hk hne
      rw [hgrow.block k (by simp; omega) (fun e => hne e.symm), heap_alloc_old w0 _ hk]

end Go.Proofs.Ytppbhjhbaknidaa

/-
  The contracts of strings.Builder's copyCheck and WriteByte at this program. Condition: a builder of the call's own, fewer than 2^47 bytes.
-/
namespace Go.Proofs.Ytppbhjhbaknidaa
open Go.RowKit Go.Shelf

theorem enters132 : ∀ args w, (callFunc 132 args).run Try.prog w = .ok (.enter 132 args) w := enters_of Try.func132 (by kernel_rfl) rfl

set_option maxHeartbeats 1000000 in
set_option maxRecDepth 100000 in
theorem copyCheck_used (b : Nat) (w : World) (h0 : w.cell? ⟨b, 0, none⟩ = some (.pointer (some ⟨b, 0, none⟩))) :
    Calls Try.prog 132 #[.pointer (some ⟨b, 0, none⟩)] w fun e w' => e = .returned (.tuple #[]) ∧ w' = w := by
  obtain ⟨j, hj, _⟩ := Option.map_eq_some_iff.1 Try.Builder_Extra_169.sizeBuilder
  go_enter Try.func132, Try.ntmps132
  go_wp2
  rw [Lib.run_neq_ptr_same w _ Try.underlying118 hj]
  go_wp2
  go_end0
  exact ⟨rfl, rfl⟩

set_option maxHeartbeats 1000000 in
set_option maxRecDepth 100000 in
theorem copyCheck_fresh (b : Nat) (w : World) (h0 : w.cell? ⟨b, 0, none⟩ = some (.pointer none)) (hsh : w.shape? b = some (121, 2)) (hfz : w.frozen? ⟨b, 0, none⟩ = false) :
    Calls Try.prog 132 #[.pointer (some ⟨b, 0, none⟩)] w fun e w' => e = .returned (.tuple #[]) ∧ w' = w.setCell ⟨b, 0, none⟩ (.pointer (some ⟨b, 0, none⟩)) := by
  obtain ⟨j, hj, hjs⟩ := Option.map_eq_some_iff.1 Try.Builder_Extra_169.sizeBuilder
  go_enter Try.func132, Try.ntmps132
  go_wp2
  rw [Lib.run_to_unsafe w ⟨b, 0, none⟩ Try.underlying118 Try.underlying138 hj (by rw [hjs]; decide) hsh (Nat.zero_lt_succ 1)]
  simp only [Result.andThen]
  rw [Oper.upon_value]
  go_wp2
  rw [run_callFunc_extern Try.func136 (by kernel_rfl) (by kernel_rfl) (by kernel_rfl) (e := Extern.AbiNoEscape.same) (by kernel_rfl)]
  rw [Lib.run_noEscape]
  simp only [Result.andThen]
  rw [Oper.upon_value]
  go_wp2
  rw [Lib.run_from_unsafe w ⟨b, 0, none⟩ Try.underlying138 Try.underlying118 hj hsh Try.Builder_Extra_169.liesBuilder]
  simp only [Result.andThen]
  rw [Oper.upon_value]
  go_wp2
  go_end0
  exact ⟨rfl, rfl⟩

theorem copyCheck_any (B b : Nat) (bs : List Value) (w : World) (h : Lib.IsBuilder 121 5 B b bs w) :
    Calls Try.prog 132 #[.pointer (some ⟨b, 0, none⟩)] w fun e w' => e = .returned (.tuple #[]) ∧ (Lib.BuilderAt 121 5 B b (.pointer (some ⟨b, 0, none⟩)) bs w' ∧ Below B w w') := by
  rcases h with h | h
  · refine (copyCheck_fresh b w h.cell0 h.shape h.frozen0).mono ?_
    rintro e w' ⟨rfl, rfl⟩
    exact ⟨rfl, h.used _, (Below.refl B w).setCell (p := ⟨b, 0, none⟩) h.1 _⟩
  · refine (copyCheck_used b w h.cell0).mono ?_
    rintro e w' ⟨rfl, rfl⟩
    exact ⟨rfl, h, Below.refl B _⟩

set_option maxHeartbeats 1000000 in
set_option maxRecDepth 100000 in
theorem writeByte_any (B b : Nat) (bs : List Value) (c : Int) (w : World) (h : Lib.IsBuilder 121 5 B b bs w) (hlen : bs.length + 1 ≤ 140737488355328) (hBw : B ≤ w.heap.size) :
    Calls Try.prog 116 #[.pointer (some ⟨b, 0, none⟩), .int .u8 c] w fun e w' => e = .returned .nilIface ∧ (Lib.BuilderAt 121 5 B b (.pointer (some ⟨b, 0, none⟩)) (bs ++ [.int .u8 c]) w' ∧ Below B w w') := by
  obtain ⟨i0, hi, hz0, hz1, hz2⟩ := info_parts Try.Builder_Extra_169.infoByte
  have e132 := enters132
  go_enter Try.func116, Try.ntmps116
  go_wp2_with fail
  refine (copyCheck_any B b bs _ h).mono ?_
  rintro e w1 ⟨rfl, h1, hb1⟩
  obtain ⟨hB, v, hbk, hown, hne⟩ := h1
  have c0 : w1.cell? ⟨b, 0, none⟩ = some (.pointer (some ⟨b, 0, none⟩)) := by rw [Lib.cell_of_heap hbk]; rfl
  have c1 : w1.cell? ⟨b, 1, none⟩ = some v := by rw [Lib.cell_of_heap hbk]; rfl
  go_wp2_with (at_builtin; refine wpList_append_own _ rfl _ _ 119 rfl B 5 i0 (.int .u8 0) 1 1 Try.underlying119 hi hz0 hz1 hz2 rfl (by decide) _ _ _ rfl (hown.alloc _) ⟨w1.heap.size, 0, none⟩ 1 1 [.int .u8 c] rfl rfl ?c1 ?c2 ?c3 ?c4 ?c5 ?_)
  case c1 =>
    intro j u hj
    match j, hj with
    | 0, hj => simp at hj; subst hj; simp [Addr.add]
  case c2 => intro u hu; simp at hu; subst hu; rfl
  case c3 => unfold maxLen; omega
  case c4 => omega
  case c5 => have := hb1.size; simp; omega
  intro v' w2 hown' hgrow _
  have hlt : b < w1.heap.size := (Array.getElem?_eq_some_iff.1 hbk).1
  have hb2 : w2.heap[b]? = some (.cells #[.pointer (some ⟨b, 0, none⟩), v] 121 (0, 0)) := by
    rw [hgrow.block b (by simp; omega) (fun e => hne e.symm), Lib.alloc_old w1 _ b hlt]
    exact hbk
  have d0 : w2.cell? ⟨b, 0, none⟩ = some (.pointer (some ⟨b, 0, none⟩)) := by rw [Lib.cell_of_heap hb2]; rfl
  have d1 : w2.cell? ⟨b, 1, none⟩ = some v := by rw [Lib.cell_of_heap hb2]; rfl
  have f1 : w2.frozen? ⟨b, 1, none⟩ = false := Lib.frozen_of_heap hb2 1
  obtain ⟨g, cap, rfl⟩ : ∃ g cap, v' = .slice (some ⟨g, 0, none⟩) (bs.length + 1) cap := by
    rcases hown'.2 with ⟨_, h0⟩ | ⟨g, cap, cur, hv, _⟩
    · omega
    · exact ⟨g, cap, hv⟩
  go_wp2
  go_ret
  refine ⟨rfl, ?_, ?_⟩
  · exact Lib.BuilderAt.put (T := 121) (e := 5) hB hb2 (bs' := bs ++ [.int .u8 c]) (by simpa using hown') (by decide)
  · exact ((hb1.alloc (by have := hb1.size; omega) _).grown hgrow (by have := hb1.size; simp; omega) (fun k hk => (hown.lt k hk).1)).setCell (p := ⟨b, 1, none⟩) hB _

end Go.Proofs.Ytppbhjhbaknidaa
