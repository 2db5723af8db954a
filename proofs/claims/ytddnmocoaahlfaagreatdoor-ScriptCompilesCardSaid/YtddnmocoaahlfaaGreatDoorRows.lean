/-
  NARROWER THAN 'FOR EVERY INPUT', by the rows' own cells (each row's printed sentence says how): ScriptBack: laid · ScriptOnly: laid · ScriptTexts: laid · ScriptCompiles: laid · ScriptCompiled: laid · ScriptUnrolled: laid · ScriptSpaced: laid · ScriptEvals: laid · ScriptChoices: laid · ScriptValues: laid · ScriptParses: laid · ScriptEvents: laid · ScriptPlants: laid · ScriptReports: laid · ScriptPlantTexts: laid.
  DERIVED. THE GIVEN ROWS OF THIS SEAT. 15 by the template 'for every input the law returns true; each argument reads behind the call as it read before'; 0 by the template 'total and deterministic' (their statements: YtddnmocoaahlfaaGreatDoorTotals.lean).
  GIVEN WITH THE SEED: the statements are not yours to turn. If you find one false, say at which input.
  Laid BY PROGRAM, IN A SANDBOX (cutbox-rows.mjs): the forced cells as the released guide's own fill.sh prints them over the translation 95622efac386da6c… (all of the seat's roots in one cut). By AI agents, Wed Nov 11 2026. No macro, syntax, notation, axiom, sorry.
-/
import Derived.Test.YtddnmocoaahlfaaGreatDoorChecked
import GoSem.PinnedTables
import GoSem.Claim
import GoSem.ClaimJoined
import GoSem.ClaimMapViews
import Derived.JoinedTies
import Derived.KernelRfl
namespace Go.Proofs.YtddnmocoaahlfaaGreatDoor
/- THE CELL 'sum', in the pinned program and in every row, IS THE sha256 OF THE DUMP (.gsa) THAT YtddnmocoaahlfaaGreatDoorProg.lean LOADS. Nothing in Lean hashes anything: it is a label: what it is worth is what the hold of that sum in a sandbox is worth. -/
noncomputable def Tryz.pinned : Pinned := { name := "ytddnmocoaahlfaagreatdoor", sum := "95622efac386da6cd1bcfffc35c8ce46dde9d69346c3334d0aefcb81e31208f4", checked := Tryz.checked }
namespace Rows
def none {H : Type} : Left H := { results := [], args := [] }

/- WHAT THE LISTED PACKAGE-LEVEL VARIABLES READ AS WHEN THE CALL BEGINS. Each datum BY PROGRAM (the guide's laid-datum.mjs) off the statement by which the dump's own 'gosem.cut.vars' lays the variable. In a bare row this is a premise. The card (YtddnmocoaahlfaaGreatDoorCards.lean) ties it to the program's text. -/
def laid_math_bits_deBruijn32tab {H : Type} : DataW H := .agg [.lit (.int .u8 0), .lit (.int .u8 1), .lit (.int .u8 28), .lit (.int .u8 2), .lit (.int .u8 29), .lit (.int .u8 14), .lit (.int .u8 24), .lit (.int .u8 3), .lit (.int .u8 30), .lit (.int .u8 22), .lit (.int .u8 20), .lit (.int .u8 15), .lit (.int .u8 25), .lit (.int .u8 17), .lit (.int .u8 4), .lit (.int .u8 8), .lit (.int .u8 31), .lit (.int .u8 27), .lit (.int .u8 13), .lit (.int .u8 23), .lit (.int .u8 21), .lit (.int .u8 19), .lit (.int .u8 16), .lit (.int .u8 7), .lit (.int .u8 26), .lit (.int .u8 12), .lit (.int .u8 18), .lit (.int .u8 6), .lit (.int .u8 11), .lit (.int .u8 5), .lit (.int .u8 10), .lit (.int .u8 9)]
def laid_math_bits_deBruijn64tab {H : Type} : DataW H := .agg [.lit (.int .u8 0), .lit (.int .u8 1), .lit (.int .u8 56), .lit (.int .u8 2), .lit (.int .u8 57), .lit (.int .u8 49), .lit (.int .u8 28), .lit (.int .u8 3), .lit (.int .u8 61), .lit (.int .u8 58), .lit (.int .u8 42), .lit (.int .u8 50), .lit (.int .u8 38), .lit (.int .u8 29), .lit (.int .u8 17), .lit (.int .u8 4), .lit (.int .u8 62), .lit (.int .u8 47), .lit (.int .u8 59), .lit (.int .u8 36), .lit (.int .u8 45), .lit (.int .u8 43), .lit (.int .u8 51), .lit (.int .u8 22), .lit (.int .u8 53), .lit (.int .u8 39), .lit (.int .u8 33), .lit (.int .u8 30), .lit (.int .u8 24), .lit (.int .u8 18), .lit (.int .u8 12), .lit (.int .u8 5), .lit (.int .u8 63), .lit (.int .u8 55), .lit (.int .u8 48), .lit (.int .u8 27), .lit (.int .u8 60), .lit (.int .u8 41), .lit (.int .u8 37), .lit (.int .u8 16), .lit (.int .u8 46), .lit (.int .u8 35), .lit (.int .u8 44), .lit (.int .u8 21), .lit (.int .u8 52), .lit (.int .u8 32), .lit (.int .u8 23), .lit (.int .u8 11), .lit (.int .u8 54), .lit (.int .u8 26), .lit (.int .u8 40), .lit (.int .u8 15), .lit (.int .u8 34), .lit (.int .u8 20), .lit (.int .u8 31), .lit (.int .u8 10), .lit (.int .u8 25), .lit (.int .u8 14), .lit (.int .u8 19), .lit (.int .u8 9), .lit (.int .u8 13), .lit (.int .u8 8), .lit (.int .u8 7), .lit (.int .u8 6)]
def laid_internal_strconv_uint64pow10 {H : Type} : DataW H := .agg [.lit (.int .u64 1), .lit (.int .u64 10), .lit (.int .u64 100), .lit (.int .u64 1000), .lit (.int .u64 10000), .lit (.int .u64 100000), .lit (.int .u64 1000000), .lit (.int .u64 10000000), .lit (.int .u64 100000000), .lit (.int .u64 1000000000), .lit (.int .u64 10000000000), .lit (.int .u64 100000000000), .lit (.int .u64 1000000000000), .lit (.int .u64 10000000000000), .lit (.int .u64 100000000000000), .lit (.int .u64 1000000000000000), .lit (.int .u64 10000000000000000), .lit (.int .u64 100000000000000000), .lit (.int .u64 1000000000000000000), .lit (.int .u64 10000000000000000000)]
def laid_unicode_utf8_acceptRanges {H : Type} : DataW H := .agg [.agg [.lit (.int .u8 128), .lit (.int .u8 191)], .agg [.lit (.int .u8 160), .lit (.int .u8 191)], .agg [.lit (.int .u8 128), .lit (.int .u8 159)], .agg [.lit (.int .u8 144), .lit (.int .u8 191)], .agg [.lit (.int .u8 128), .lit (.int .u8 143)], .agg [.lit (.int .u8 0), .lit (.int .u8 0)], .agg [.lit (.int .u8 0), .lit (.int .u8 0)], .agg [.lit (.int .u8 0), .lit (.int .u8 0)], .agg [.lit (.int .u8 0), .lit (.int .u8 0)], .agg [.lit (.int .u8 0), .lit (.int .u8 0)], .agg [.lit (.int .u8 0), .lit (.int .u8 0)], .agg [.lit (.int .u8 0), .lit (.int .u8 0)], .agg [.lit (.int .u8 0), .lit (.int .u8 0)], .agg [.lit (.int .u8 0), .lit (.int .u8 0)], .agg [.lit (.int .u8 0), .lit (.int .u8 0)], .agg [.lit (.int .u8 0), .lit (.int .u8 0)]]
def laid_strconv_ErrRange {H : Type} : DataW H := .iface "*errors.errorString" (.ptr (.agg [.lit (.string [118, 97, 108, 117, 101, 32, 111, 117, 116, 32, 111, 102, 32, 114, 97, 110, 103, 101])]))
def laid_strconv_ErrSyntax {H : Type} : DataW H := .iface "*errors.errorString" (.ptr (.agg [.lit (.string [105, 110, 118, 97, 108, 105, 100, 32, 115, 121, 110, 116, 97, 120])]))
def laid_guilloche_script_acts {H : Type} : DataW H := .agg [.agg [.lit (.string [109, 111, 117, 110, 116]), .lit (.int .i64 1), .lit (.bool false)], .agg [.lit (.string [112, 114, 105, 110, 116]), .lit (.int .i64 2), .lit (.bool false)], .agg [.lit (.string [116, 105, 99, 107]), .lit (.int .i64 0), .lit (.bool false)], .agg [.lit (.string [115, 112, 111, 105, 108]), .lit (.int .i64 2), .lit (.bool false)], .agg [.lit (.string [114, 101, 112, 97, 105, 114]), .lit (.int .i64 2), .lit (.bool false)], .agg [.lit (.string [105, 110, 115, 112, 101, 99, 116]), .lit (.int .i64 4), .lit (.bool false)], .agg [.lit (.string [99, 117, 116]), .lit (.int .i64 1), .lit (.bool false)], .agg [.lit (.string [98, 101, 103, 105, 110]), .lit (.int .i64 0), .lit (.bool false)], .agg [.lit (.string [108, 111, 111, 107]), .lit (.int .i64 3), .lit (.bool false)], .agg [.lit (.string [109, 111, 118, 101]), .lit (.int .i64 5), .lit (.bool false)], .agg [.lit (.string [99, 111, 109, 109, 105, 116]), .lit (.int .i64 1), .lit (.bool false)], .agg [.lit (.string [97, 98, 111, 114, 116]), .lit (.int .i64 1), .lit (.bool false)], .agg [.lit (.string [100, 101, 115, 116, 114, 111, 121]), .lit (.int .i64 4), .lit (.bool false)], .agg [.lit (.string [97, 117, 100, 105, 116]), .lit (.int .i64 3), .lit (.bool false)], .agg [.lit (.string [115, 97, 118, 101]), .lit (.int .i64 0), .lit (.bool false)], .agg [.lit (.string [99, 104, 101, 99, 107]), .lit (.int .i64 0), .lit (.bool false)], .agg [.lit (.string [99, 114, 97, 115, 104]), .lit (.int .i64 0), .lit (.bool false)]]
def laid_guilloche_script_events {H : Type} : DataW H := .agg [.agg [.lit (.string [109, 111, 117, 110, 116, 101, 100]), .lit (.int .i64 2), .lit (.bool false)], .agg [.lit (.string [112, 114, 105, 110, 116, 101, 100]), .lit (.int .i64 3), .lit (.bool false)], .agg [.lit (.string [100, 114, 105, 101, 100]), .lit (.int .i64 2), .lit (.bool false)], .agg [.lit (.string [115, 112, 111, 105, 108, 101, 100]), .lit (.int .i64 1), .lit (.bool false)], .agg [.lit (.string [114, 101, 112, 114, 105, 110, 116, 101, 100]), .lit (.int .i64 1), .lit (.bool false)], .agg [.lit (.string [114, 101, 112, 108, 97, 99, 101, 100]), .lit (.int .i64 2), .lit (.bool false)], .agg [.lit (.string [111, 112, 101, 110, 101, 100]), .lit (.int .i64 1), .lit (.bool false)], .agg [.lit (.string [114, 101, 112, 97, 105, 114, 101, 100]), .lit (.int .i64 2), .lit (.bool false)], .agg [.lit (.string [105, 110, 115, 112, 101, 99, 116, 101, 100]), .lit (.int .i64 3), .lit (.bool false)], .agg [.lit (.string [99, 117, 116]), .lit (.int .i64 3), .lit (.bool false)], .agg [.lit (.string [98, 101, 103, 117, 110]), .lit (.int .i64 1), .lit (.bool false)], .agg [.lit (.string [114, 117, 110]), .lit (.int .i64 3), .lit (.bool false)], .agg [.lit (.string [108, 111, 111, 107, 101, 100]), .lit (.int .i64 3), .lit (.bool false)], .agg [.lit (.string [109, 111, 118, 101, 100]), .lit (.int .i64 3), .lit (.bool false)], .agg [.lit (.string [114, 101, 102, 117, 115, 101, 100]), .lit (.int .i64 1), .lit (.bool false)], .agg [.lit (.string [119, 97, 105, 116, 115]), .lit (.int .i64 1), .lit (.bool false)], .agg [.lit (.string [103, 114, 97, 110, 116, 101, 100]), .lit (.int .i64 1), .lit (.bool false)], .agg [.lit (.string [99, 111, 109, 109, 105, 116, 116, 101, 100]), .lit (.int .i64 2), .lit (.bool false)], .agg [.lit (.string [97, 98, 111, 114, 116, 101, 100]), .lit (.int .i64 1), .lit (.bool false)], .agg [.lit (.string [100, 101, 115, 116, 114, 111, 121, 101, 100]), .lit (.int .i64 2), .lit (.bool false)], .agg [.lit (.string [100, 114, 97, 119, 110]), .lit (.int .i64 1), .lit (.bool true)], .agg [.lit (.string [97, 117, 100, 105, 116, 101, 100]), .lit (.int .i64 2), .lit (.bool true)], .agg [.lit (.string [115, 97, 118, 101, 100]), .lit (.int .i64 1), .lit (.bool false)], .agg [.lit (.string [99, 104, 101, 99, 107, 101, 100]), .lit (.int .i64 1), .lit (.bool false)], .agg [.lit (.string [114, 101, 99, 111, 118, 101, 114, 101, 100]), .lit (.int .i64 1), .lit (.bool false)]]
/-- One of Go's own tables, pinned by name: the form's constant. -/
def laid_unicode_utf8_first : DataW Unit := Go.Pinned.utf8First

/-- 'guillochelaw10.ScriptBack': WHATEVER THE INPUT: true; the input reads as it did. -/
def scriptBackSpec : ChangeSpec := { name := "scriptBack", fn := fun _ => fun
  | [d1, d2, d3] => { results := [.lit (.bool true)], args := [d1, d2, d3] }
  | _ => none }
def scriptBackRow : OpenClaim := { program := "ytddnmocoaahlfaagreatdoor", sum := "95622efac386da6cd1bcfffc35c8ce46dde9d69346c3334d0aefcb81e31208f4", func := "guilloche/guillochelaw10.ScriptBack", spec := "scriptBack", inPlace := ["internal/bytealg.CountString", "internal/bytealg.IndexByteString", "internal/bytealg.IndexString", "internal/abi.NoEscape", "internal/bytealg.MakeNoZero"], unfollowed := true, recurses := true, named := ["unicode/utf8.first", "unicode/utf8.acceptRanges", "internal/bytealg.MaxLen", "guilloche/script.acts", "strconv.ErrSyntax", "strconv.ErrRange", "internal/strconv.uint64pow10", "math/bits.deBruijn32tab", "math/bits.deBruijn64tab", "guilloche/script.events"], apart := false, laid := [("math/bits.deBruijn32tab", laid_math_bits_deBruijn32tab), ("math/bits.deBruijn64tab", laid_math_bits_deBruijn64tab), ("internal/strconv.uint64pow10", laid_internal_strconv_uint64pow10), ("unicode/utf8.acceptRanges", laid_unicode_utf8_acceptRanges), ("strconv.ErrRange", laid_strconv_ErrRange), ("strconv.ErrSyntax", laid_strconv_ErrSyntax), ("guilloche/script.acts", laid_guilloche_script_acts), ("guilloche/script.events", laid_guilloche_script_events), ("unicode/utf8.first", laid_unicode_utf8_first)] }
def ScriptBackSaid : Prop := scriptBackRow.holds Tryz.pinned (OpenSpec.ofChange scriptBackSpec)

/-- ITS FALSE NEIGHBOUR: 'it returns false'. Refute it at one input. -/
def scriptBackWrong : ChangeSpec := { name := "scriptBack", fn := fun _ => fun
  | [d1, d2, d3] => { results := [.lit (.bool false)], args := [d1, d2, d3] }
  | _ => none }
def ScriptBackWrongFalsely : Prop := scriptBackRow.holds Tryz.pinned (OpenSpec.ofChange scriptBackWrong)

/-- 'guillochelaw10.ScriptOnly': WHATEVER THE INPUT: true; the input reads as it did. -/
def scriptOnlySpec : ChangeSpec := { name := "scriptOnly", fn := fun _ => fun
  | [d] => { results := [.lit (.bool true)], args := [d] }
  | _ => none }
def scriptOnlyRow : OpenClaim := { program := "ytddnmocoaahlfaagreatdoor", sum := "95622efac386da6cd1bcfffc35c8ce46dde9d69346c3334d0aefcb81e31208f4", func := "guilloche/guillochelaw10.ScriptOnly", spec := "scriptOnly", inPlace := ["internal/bytealg.CountString", "internal/bytealg.IndexByteString", "internal/bytealg.IndexString", "internal/abi.NoEscape", "internal/bytealg.MakeNoZero"], unfollowed := true, recurses := true, named := ["unicode/utf8.first", "unicode/utf8.acceptRanges", "internal/bytealg.MaxLen", "guilloche/script.acts", "strconv.ErrSyntax", "strconv.ErrRange", "internal/strconv.uint64pow10", "math/bits.deBruijn32tab", "math/bits.deBruijn64tab", "guilloche/script.events"], apart := false, laid := [("math/bits.deBruijn32tab", laid_math_bits_deBruijn32tab), ("math/bits.deBruijn64tab", laid_math_bits_deBruijn64tab), ("internal/strconv.uint64pow10", laid_internal_strconv_uint64pow10), ("unicode/utf8.acceptRanges", laid_unicode_utf8_acceptRanges), ("strconv.ErrRange", laid_strconv_ErrRange), ("strconv.ErrSyntax", laid_strconv_ErrSyntax), ("guilloche/script.acts", laid_guilloche_script_acts), ("guilloche/script.events", laid_guilloche_script_events), ("unicode/utf8.first", laid_unicode_utf8_first)] }
def ScriptOnlySaid : Prop := scriptOnlyRow.holds Tryz.pinned (OpenSpec.ofChange scriptOnlySpec)

/-- ITS FALSE NEIGHBOUR: 'it returns false'. Refute it at one input. -/
def scriptOnlyWrong : ChangeSpec := { name := "scriptOnly", fn := fun _ => fun
  | [d] => { results := [.lit (.bool false)], args := [d] }
  | _ => none }
def ScriptOnlyWrongFalsely : Prop := scriptOnlyRow.holds Tryz.pinned (OpenSpec.ofChange scriptOnlyWrong)

/-- 'guillochelaw10.ScriptTexts': WHATEVER THE INPUT: true; the input reads as it did. -/
def scriptTextsSpec : ChangeSpec := { name := "scriptTexts", fn := fun _ => fun
  | [d] => { results := [.lit (.bool true)], args := [d] }
  | _ => none }
def scriptTextsRow : OpenClaim := { program := "ytddnmocoaahlfaagreatdoor", sum := "95622efac386da6cd1bcfffc35c8ce46dde9d69346c3334d0aefcb81e31208f4", func := "guilloche/guillochelaw10.ScriptTexts", spec := "scriptTexts", inPlace := ["internal/bytealg.CountString", "internal/bytealg.IndexByteString", "internal/bytealg.IndexString", "internal/abi.NoEscape", "internal/bytealg.MakeNoZero"], unfollowed := true, recurses := true, named := ["unicode/utf8.first", "unicode/utf8.acceptRanges", "internal/bytealg.MaxLen", "guilloche/script.acts", "strconv.ErrSyntax", "strconv.ErrRange", "internal/strconv.uint64pow10", "math/bits.deBruijn32tab", "math/bits.deBruijn64tab"], apart := false, laid := [("math/bits.deBruijn32tab", laid_math_bits_deBruijn32tab), ("math/bits.deBruijn64tab", laid_math_bits_deBruijn64tab), ("internal/strconv.uint64pow10", laid_internal_strconv_uint64pow10), ("unicode/utf8.acceptRanges", laid_unicode_utf8_acceptRanges), ("strconv.ErrRange", laid_strconv_ErrRange), ("strconv.ErrSyntax", laid_strconv_ErrSyntax), ("guilloche/script.acts", laid_guilloche_script_acts), ("unicode/utf8.first", laid_unicode_utf8_first)] }
def ScriptTextsSaid : Prop := scriptTextsRow.holds Tryz.pinned (OpenSpec.ofChange scriptTextsSpec)

/-- ITS FALSE NEIGHBOUR: 'it returns false'. Refute it at one input. -/
def scriptTextsWrong : ChangeSpec := { name := "scriptTexts", fn := fun _ => fun
  | [d] => { results := [.lit (.bool false)], args := [d] }
  | _ => none }
def ScriptTextsWrongFalsely : Prop := scriptTextsRow.holds Tryz.pinned (OpenSpec.ofChange scriptTextsWrong)

/-- 'guillochelaw10.ScriptCompiles': WHATEVER THE INPUT: true; the input reads as it did. -/
def scriptCompilesSpec : ChangeSpec := { name := "scriptCompiles", fn := fun _ => fun
  | [d] => { results := [.lit (.bool true)], args := [d] }
  | _ => none }
def scriptCompilesRow : OpenClaim := { program := "ytddnmocoaahlfaagreatdoor", sum := "95622efac386da6cd1bcfffc35c8ce46dde9d69346c3334d0aefcb81e31208f4", func := "guilloche/guillochelaw10.ScriptCompiles", spec := "scriptCompiles", inPlace := ["internal/bytealg.CountString", "internal/bytealg.IndexByteString", "internal/bytealg.IndexString", "internal/abi.NoEscape", "internal/bytealg.MakeNoZero"], unfollowed := true, recurses := true, named := ["unicode/utf8.first", "unicode/utf8.acceptRanges", "internal/bytealg.MaxLen", "guilloche/script.acts", "strconv.ErrSyntax", "strconv.ErrRange", "internal/strconv.uint64pow10", "math/bits.deBruijn32tab", "math/bits.deBruijn64tab"], apart := false, laid := [("math/bits.deBruijn32tab", laid_math_bits_deBruijn32tab), ("math/bits.deBruijn64tab", laid_math_bits_deBruijn64tab), ("internal/strconv.uint64pow10", laid_internal_strconv_uint64pow10), ("unicode/utf8.acceptRanges", laid_unicode_utf8_acceptRanges), ("strconv.ErrRange", laid_strconv_ErrRange), ("strconv.ErrSyntax", laid_strconv_ErrSyntax), ("guilloche/script.acts", laid_guilloche_script_acts), ("unicode/utf8.first", laid_unicode_utf8_first)] }
def ScriptCompilesSaid : Prop := scriptCompilesRow.holds Tryz.pinned (OpenSpec.ofChange scriptCompilesSpec)

/-- ITS FALSE NEIGHBOUR: 'it returns false'. Refute it at one input. -/
def scriptCompilesWrong : ChangeSpec := { name := "scriptCompiles", fn := fun _ => fun
  | [d] => { results := [.lit (.bool false)], args := [d] }
  | _ => none }
def ScriptCompilesWrongFalsely : Prop := scriptCompilesRow.holds Tryz.pinned (OpenSpec.ofChange scriptCompilesWrong)

/-- 'guillochelaw10.ScriptCompiled': WHATEVER THE INPUT: true; the input reads as it did. -/
def scriptCompiledSpec : ChangeSpec := { name := "scriptCompiled", fn := fun _ => fun
  | [d] => { results := [.lit (.bool true)], args := [d] }
  | _ => none }
def scriptCompiledRow : OpenClaim := { program := "ytddnmocoaahlfaagreatdoor", sum := "95622efac386da6cd1bcfffc35c8ce46dde9d69346c3334d0aefcb81e31208f4", func := "guilloche/guillochelaw10.ScriptCompiled", spec := "scriptCompiled", inPlace := ["internal/bytealg.CountString", "internal/bytealg.IndexByteString", "internal/bytealg.IndexString", "internal/abi.NoEscape", "internal/bytealg.MakeNoZero"], unfollowed := true, recurses := true, named := ["unicode/utf8.first", "unicode/utf8.acceptRanges", "internal/bytealg.MaxLen", "guilloche/script.acts", "strconv.ErrSyntax", "strconv.ErrRange", "internal/strconv.uint64pow10", "math/bits.deBruijn32tab", "math/bits.deBruijn64tab"], apart := false, laid := [("math/bits.deBruijn32tab", laid_math_bits_deBruijn32tab), ("math/bits.deBruijn64tab", laid_math_bits_deBruijn64tab), ("internal/strconv.uint64pow10", laid_internal_strconv_uint64pow10), ("unicode/utf8.acceptRanges", laid_unicode_utf8_acceptRanges), ("strconv.ErrRange", laid_strconv_ErrRange), ("strconv.ErrSyntax", laid_strconv_ErrSyntax), ("guilloche/script.acts", laid_guilloche_script_acts), ("unicode/utf8.first", laid_unicode_utf8_first)] }
def ScriptCompiledSaid : Prop := scriptCompiledRow.holds Tryz.pinned (OpenSpec.ofChange scriptCompiledSpec)

/-- ITS FALSE NEIGHBOUR: 'it returns false'. Refute it at one input. -/
def scriptCompiledWrong : ChangeSpec := { name := "scriptCompiled", fn := fun _ => fun
  | [d] => { results := [.lit (.bool false)], args := [d] }
  | _ => none }
def ScriptCompiledWrongFalsely : Prop := scriptCompiledRow.holds Tryz.pinned (OpenSpec.ofChange scriptCompiledWrong)

/-- 'guillochelaw10.ScriptUnrolled': WHATEVER THE INPUT: true; the input reads as it did. -/
def scriptUnrolledSpec : ChangeSpec := { name := "scriptUnrolled", fn := fun _ => fun
  | [d1, d2, d3] => { results := [.lit (.bool true)], args := [d1, d2, d3] }
  | _ => none }
def scriptUnrolledRow : OpenClaim := { program := "ytddnmocoaahlfaagreatdoor", sum := "95622efac386da6cd1bcfffc35c8ce46dde9d69346c3334d0aefcb81e31208f4", func := "guilloche/guillochelaw10.ScriptUnrolled", spec := "scriptUnrolled", inPlace := ["internal/bytealg.CountString", "internal/bytealg.IndexByteString", "internal/bytealg.IndexString", "internal/abi.NoEscape", "internal/bytealg.MakeNoZero"], unfollowed := true, recurses := true, named := ["unicode/utf8.first", "unicode/utf8.acceptRanges", "internal/bytealg.MaxLen", "guilloche/script.acts", "strconv.ErrSyntax", "strconv.ErrRange", "internal/strconv.uint64pow10", "math/bits.deBruijn32tab", "math/bits.deBruijn64tab"], apart := false, laid := [("math/bits.deBruijn32tab", laid_math_bits_deBruijn32tab), ("math/bits.deBruijn64tab", laid_math_bits_deBruijn64tab), ("internal/strconv.uint64pow10", laid_internal_strconv_uint64pow10), ("unicode/utf8.acceptRanges", laid_unicode_utf8_acceptRanges), ("strconv.ErrRange", laid_strconv_ErrRange), ("strconv.ErrSyntax", laid_strconv_ErrSyntax), ("guilloche/script.acts", laid_guilloche_script_acts), ("unicode/utf8.first", laid_unicode_utf8_first)] }
def ScriptUnrolledSaid : Prop := scriptUnrolledRow.holds Tryz.pinned (OpenSpec.ofChange scriptUnrolledSpec)

/-- ITS FALSE NEIGHBOUR: 'it returns false'. Refute it at one input. -/
def scriptUnrolledWrong : ChangeSpec := { name := "scriptUnrolled", fn := fun _ => fun
  | [d1, d2, d3] => { results := [.lit (.bool false)], args := [d1, d2, d3] }
  | _ => none }
def ScriptUnrolledWrongFalsely : Prop := scriptUnrolledRow.holds Tryz.pinned (OpenSpec.ofChange scriptUnrolledWrong)

/-- 'guillochelaw10.ScriptSpaced': WHATEVER THE INPUT: true; the input reads as it did. -/
def scriptSpacedSpec : ChangeSpec := { name := "scriptSpaced", fn := fun _ => fun
  | [d] => { results := [.lit (.bool true)], args := [d] }
  | _ => none }
def scriptSpacedRow : OpenClaim := { program := "ytddnmocoaahlfaagreatdoor", sum := "95622efac386da6cd1bcfffc35c8ce46dde9d69346c3334d0aefcb81e31208f4", func := "guilloche/guillochelaw10.ScriptSpaced", spec := "scriptSpaced", inPlace := ["internal/bytealg.CountString", "internal/bytealg.IndexByteString", "internal/bytealg.IndexString", "internal/abi.NoEscape", "internal/bytealg.MakeNoZero"], unfollowed := true, recurses := true, named := ["unicode/utf8.first", "unicode/utf8.acceptRanges", "internal/bytealg.MaxLen", "guilloche/script.acts", "strconv.ErrSyntax", "strconv.ErrRange", "internal/strconv.uint64pow10", "math/bits.deBruijn32tab", "math/bits.deBruijn64tab"], apart := false, laid := [("math/bits.deBruijn32tab", laid_math_bits_deBruijn32tab), ("math/bits.deBruijn64tab", laid_math_bits_deBruijn64tab), ("internal/strconv.uint64pow10", laid_internal_strconv_uint64pow10), ("unicode/utf8.acceptRanges", laid_unicode_utf8_acceptRanges), ("strconv.ErrRange", laid_strconv_ErrRange), ("strconv.ErrSyntax", laid_strconv_ErrSyntax), ("guilloche/script.acts", laid_guilloche_script_acts), ("unicode/utf8.first", laid_unicode_utf8_first)] }
def ScriptSpacedSaid : Prop := scriptSpacedRow.holds Tryz.pinned (OpenSpec.ofChange scriptSpacedSpec)

/-- ITS FALSE NEIGHBOUR: 'it returns false'. Refute it at one input. -/
def scriptSpacedWrong : ChangeSpec := { name := "scriptSpaced", fn := fun _ => fun
  | [d] => { results := [.lit (.bool false)], args := [d] }
  | _ => none }
def ScriptSpacedWrongFalsely : Prop := scriptSpacedRow.holds Tryz.pinned (OpenSpec.ofChange scriptSpacedWrong)

/-- 'guillochelaw10.ScriptEvals': WHATEVER THE INPUT: true; the input reads as it did. -/
def scriptEvalsSpec : ChangeSpec := { name := "scriptEvals", fn := fun _ => fun
  | [d1, d2, d3] => { results := [.lit (.bool true)], args := [d1, d2, d3] }
  | _ => none }
def scriptEvalsRow : OpenClaim := { program := "ytddnmocoaahlfaagreatdoor", sum := "95622efac386da6cd1bcfffc35c8ce46dde9d69346c3334d0aefcb81e31208f4", func := "guilloche/guillochelaw10.ScriptEvals", spec := "scriptEvals", inPlace := ["internal/bytealg.CountString", "internal/bytealg.IndexByteString", "internal/bytealg.IndexString", "internal/abi.NoEscape", "internal/bytealg.MakeNoZero"], unfollowed := true, recurses := true, named := ["unicode/utf8.first", "unicode/utf8.acceptRanges", "internal/bytealg.MaxLen", "guilloche/script.acts", "strconv.ErrSyntax", "strconv.ErrRange", "internal/strconv.uint64pow10", "math/bits.deBruijn32tab", "math/bits.deBruijn64tab"], apart := false, laid := [("math/bits.deBruijn32tab", laid_math_bits_deBruijn32tab), ("math/bits.deBruijn64tab", laid_math_bits_deBruijn64tab), ("internal/strconv.uint64pow10", laid_internal_strconv_uint64pow10), ("unicode/utf8.acceptRanges", laid_unicode_utf8_acceptRanges), ("strconv.ErrRange", laid_strconv_ErrRange), ("strconv.ErrSyntax", laid_strconv_ErrSyntax), ("guilloche/script.acts", laid_guilloche_script_acts), ("unicode/utf8.first", laid_unicode_utf8_first)] }
def ScriptEvalsSaid : Prop := scriptEvalsRow.holds Tryz.pinned (OpenSpec.ofChange scriptEvalsSpec)

/-- ITS FALSE NEIGHBOUR: 'it returns false'. Refute it at one input. -/
def scriptEvalsWrong : ChangeSpec := { name := "scriptEvals", fn := fun _ => fun
  | [d1, d2, d3] => { results := [.lit (.bool false)], args := [d1, d2, d3] }
  | _ => none }
def ScriptEvalsWrongFalsely : Prop := scriptEvalsRow.holds Tryz.pinned (OpenSpec.ofChange scriptEvalsWrong)

/-- 'guillochelaw10.ScriptChoices': WHATEVER THE INPUT: true; the input reads as it did. -/
def scriptChoicesSpec : ChangeSpec := { name := "scriptChoices", fn := fun _ => fun
  | [d1, d2, d3] => { results := [.lit (.bool true)], args := [d1, d2, d3] }
  | _ => none }
def scriptChoicesRow : OpenClaim := { program := "ytddnmocoaahlfaagreatdoor", sum := "95622efac386da6cd1bcfffc35c8ce46dde9d69346c3334d0aefcb81e31208f4", func := "guilloche/guillochelaw10.ScriptChoices", spec := "scriptChoices", inPlace := ["internal/bytealg.CountString", "internal/bytealg.IndexByteString", "internal/bytealg.IndexString", "internal/abi.NoEscape", "internal/bytealg.MakeNoZero"], unfollowed := true, recurses := true, named := ["unicode/utf8.first", "unicode/utf8.acceptRanges", "internal/bytealg.MaxLen", "guilloche/script.acts", "strconv.ErrSyntax", "strconv.ErrRange", "internal/strconv.uint64pow10", "math/bits.deBruijn32tab", "math/bits.deBruijn64tab"], apart := false, laid := [("math/bits.deBruijn32tab", laid_math_bits_deBruijn32tab), ("math/bits.deBruijn64tab", laid_math_bits_deBruijn64tab), ("internal/strconv.uint64pow10", laid_internal_strconv_uint64pow10), ("unicode/utf8.acceptRanges", laid_unicode_utf8_acceptRanges), ("strconv.ErrRange", laid_strconv_ErrRange), ("strconv.ErrSyntax", laid_strconv_ErrSyntax), ("guilloche/script.acts", laid_guilloche_script_acts), ("unicode/utf8.first", laid_unicode_utf8_first)] }
def ScriptChoicesSaid : Prop := scriptChoicesRow.holds Tryz.pinned (OpenSpec.ofChange scriptChoicesSpec)

/-- ITS FALSE NEIGHBOUR: 'it returns false'. Refute it at one input. -/
def scriptChoicesWrong : ChangeSpec := { name := "scriptChoices", fn := fun _ => fun
  | [d1, d2, d3] => { results := [.lit (.bool false)], args := [d1, d2, d3] }
  | _ => none }
def ScriptChoicesWrongFalsely : Prop := scriptChoicesRow.holds Tryz.pinned (OpenSpec.ofChange scriptChoicesWrong)

/-- 'guillochelaw10.ScriptValues': WHATEVER THE INPUT: true; the input reads as it did. -/
def scriptValuesSpec : ChangeSpec := { name := "scriptValues", fn := fun _ => fun
  | [d1, d2, d3] => { results := [.lit (.bool true)], args := [d1, d2, d3] }
  | _ => none }
def scriptValuesRow : OpenClaim := { program := "ytddnmocoaahlfaagreatdoor", sum := "95622efac386da6cd1bcfffc35c8ce46dde9d69346c3334d0aefcb81e31208f4", func := "guilloche/guillochelaw10.ScriptValues", spec := "scriptValues", inPlace := ["internal/bytealg.CountString", "internal/bytealg.IndexByteString", "internal/bytealg.IndexString", "internal/abi.NoEscape", "internal/bytealg.MakeNoZero"], unfollowed := true, recurses := true, named := ["unicode/utf8.first", "unicode/utf8.acceptRanges", "internal/bytealg.MaxLen", "guilloche/script.acts", "strconv.ErrSyntax", "strconv.ErrRange", "internal/strconv.uint64pow10", "math/bits.deBruijn32tab", "math/bits.deBruijn64tab"], apart := false, laid := [("math/bits.deBruijn32tab", laid_math_bits_deBruijn32tab), ("math/bits.deBruijn64tab", laid_math_bits_deBruijn64tab), ("internal/strconv.uint64pow10", laid_internal_strconv_uint64pow10), ("unicode/utf8.acceptRanges", laid_unicode_utf8_acceptRanges), ("strconv.ErrRange", laid_strconv_ErrRange), ("strconv.ErrSyntax", laid_strconv_ErrSyntax), ("guilloche/script.acts", laid_guilloche_script_acts), ("unicode/utf8.first", laid_unicode_utf8_first)] }
def ScriptValuesSaid : Prop := scriptValuesRow.holds Tryz.pinned (OpenSpec.ofChange scriptValuesSpec)

/-- ITS FALSE NEIGHBOUR: 'it returns false'. Refute it at one input. -/
def scriptValuesWrong : ChangeSpec := { name := "scriptValues", fn := fun _ => fun
  | [d1, d2, d3] => { results := [.lit (.bool false)], args := [d1, d2, d3] }
  | _ => none }
def ScriptValuesWrongFalsely : Prop := scriptValuesRow.holds Tryz.pinned (OpenSpec.ofChange scriptValuesWrong)

/-- 'guillochelaw10.ScriptParses': WHATEVER THE INPUT: true; the input reads as it did. -/
def scriptParsesSpec : ChangeSpec := { name := "scriptParses", fn := fun _ => fun
  | [d] => { results := [.lit (.bool true)], args := [d] }
  | _ => none }
def scriptParsesRow : OpenClaim := { program := "ytddnmocoaahlfaagreatdoor", sum := "95622efac386da6cd1bcfffc35c8ce46dde9d69346c3334d0aefcb81e31208f4", func := "guilloche/guillochelaw10.ScriptParses", spec := "scriptParses", inPlace := ["internal/bytealg.CountString", "internal/bytealg.IndexByteString", "internal/bytealg.IndexString", "internal/abi.NoEscape", "internal/bytealg.MakeNoZero"], unfollowed := true, recurses := true, named := ["unicode/utf8.first", "unicode/utf8.acceptRanges", "internal/bytealg.MaxLen", "guilloche/script.acts", "strconv.ErrSyntax", "strconv.ErrRange", "internal/strconv.uint64pow10", "math/bits.deBruijn32tab", "math/bits.deBruijn64tab"], apart := false, laid := [("math/bits.deBruijn32tab", laid_math_bits_deBruijn32tab), ("math/bits.deBruijn64tab", laid_math_bits_deBruijn64tab), ("internal/strconv.uint64pow10", laid_internal_strconv_uint64pow10), ("unicode/utf8.acceptRanges", laid_unicode_utf8_acceptRanges), ("strconv.ErrRange", laid_strconv_ErrRange), ("strconv.ErrSyntax", laid_strconv_ErrSyntax), ("guilloche/script.acts", laid_guilloche_script_acts), ("unicode/utf8.first", laid_unicode_utf8_first)] }
def ScriptParsesSaid : Prop := scriptParsesRow.holds Tryz.pinned (OpenSpec.ofChange scriptParsesSpec)

/-- ITS FALSE NEIGHBOUR: 'it returns false'. Refute it at one input. -/
def scriptParsesWrong : ChangeSpec := { name := "scriptParses", fn := fun _ => fun
  | [d] => { results := [.lit (.bool false)], args := [d] }
  | _ => none }
def ScriptParsesWrongFalsely : Prop := scriptParsesRow.holds Tryz.pinned (OpenSpec.ofChange scriptParsesWrong)

/-- 'guillochelaw10.ScriptEvents': WHATEVER THE INPUT: true; the input reads as it did. -/
def scriptEventsSpec : ChangeSpec := { name := "scriptEvents", fn := fun _ => fun
  | [d] => { results := [.lit (.bool true)], args := [d] }
  | _ => none }
def scriptEventsRow : OpenClaim := { program := "ytddnmocoaahlfaagreatdoor", sum := "95622efac386da6cd1bcfffc35c8ce46dde9d69346c3334d0aefcb81e31208f4", func := "guilloche/guillochelaw10.ScriptEvents", spec := "scriptEvents", inPlace := ["internal/bytealg.CountString", "internal/bytealg.IndexByteString", "internal/bytealg.IndexString", "internal/abi.NoEscape", "internal/bytealg.MakeNoZero"], unfollowed := true, recurses := true, named := ["unicode/utf8.first", "unicode/utf8.acceptRanges", "internal/bytealg.MaxLen", "guilloche/script.acts", "strconv.ErrSyntax", "strconv.ErrRange", "internal/strconv.uint64pow10", "math/bits.deBruijn32tab", "math/bits.deBruijn64tab", "guilloche/script.events"], apart := false, laid := [("math/bits.deBruijn32tab", laid_math_bits_deBruijn32tab), ("math/bits.deBruijn64tab", laid_math_bits_deBruijn64tab), ("internal/strconv.uint64pow10", laid_internal_strconv_uint64pow10), ("unicode/utf8.acceptRanges", laid_unicode_utf8_acceptRanges), ("strconv.ErrRange", laid_strconv_ErrRange), ("strconv.ErrSyntax", laid_strconv_ErrSyntax), ("guilloche/script.acts", laid_guilloche_script_acts), ("guilloche/script.events", laid_guilloche_script_events), ("unicode/utf8.first", laid_unicode_utf8_first)] }
def ScriptEventsSaid : Prop := scriptEventsRow.holds Tryz.pinned (OpenSpec.ofChange scriptEventsSpec)

/-- ITS FALSE NEIGHBOUR: 'it returns false'. Refute it at one input. -/
def scriptEventsWrong : ChangeSpec := { name := "scriptEvents", fn := fun _ => fun
  | [d] => { results := [.lit (.bool false)], args := [d] }
  | _ => none }
def ScriptEventsWrongFalsely : Prop := scriptEventsRow.holds Tryz.pinned (OpenSpec.ofChange scriptEventsWrong)

/-- 'guillochelaw10.ScriptPlants': WHATEVER THE INPUT: true; the input reads as it did. -/
def scriptPlantsSpec : ChangeSpec := { name := "scriptPlants", fn := fun _ => fun
  | [d] => { results := [.lit (.bool true)], args := [d] }
  | _ => none }
def scriptPlantsRow : OpenClaim := { program := "ytddnmocoaahlfaagreatdoor", sum := "95622efac386da6cd1bcfffc35c8ce46dde9d69346c3334d0aefcb81e31208f4", func := "guilloche/guillochelaw10.ScriptPlants", spec := "scriptPlants", inPlace := ["internal/bytealg.CountString", "internal/bytealg.IndexByteString", "internal/bytealg.IndexString", "internal/abi.NoEscape", "internal/bytealg.MakeNoZero"], unfollowed := true, recurses := true, named := ["unicode/utf8.first", "unicode/utf8.acceptRanges", "internal/bytealg.MaxLen", "guilloche/script.acts", "strconv.ErrSyntax", "strconv.ErrRange", "internal/strconv.uint64pow10", "math/bits.deBruijn32tab", "math/bits.deBruijn64tab"], apart := false, laid := [("math/bits.deBruijn32tab", laid_math_bits_deBruijn32tab), ("math/bits.deBruijn64tab", laid_math_bits_deBruijn64tab), ("internal/strconv.uint64pow10", laid_internal_strconv_uint64pow10), ("unicode/utf8.acceptRanges", laid_unicode_utf8_acceptRanges), ("strconv.ErrRange", laid_strconv_ErrRange), ("strconv.ErrSyntax", laid_strconv_ErrSyntax), ("guilloche/script.acts", laid_guilloche_script_acts), ("unicode/utf8.first", laid_unicode_utf8_first)] }
def ScriptPlantsSaid : Prop := scriptPlantsRow.holds Tryz.pinned (OpenSpec.ofChange scriptPlantsSpec)

/-- ITS FALSE NEIGHBOUR: 'it returns false'. Refute it at one input. -/
def scriptPlantsWrong : ChangeSpec := { name := "scriptPlants", fn := fun _ => fun
  | [d] => { results := [.lit (.bool false)], args := [d] }
  | _ => none }
def ScriptPlantsWrongFalsely : Prop := scriptPlantsRow.holds Tryz.pinned (OpenSpec.ofChange scriptPlantsWrong)

/-- 'guillochelaw10.ScriptReports': WHATEVER THE INPUT: true; the input reads as it did. -/
def scriptReportsSpec : ChangeSpec := { name := "scriptReports", fn := fun _ => fun
  | [d] => { results := [.lit (.bool true)], args := [d] }
  | _ => none }
def scriptReportsRow : OpenClaim := { program := "ytddnmocoaahlfaagreatdoor", sum := "95622efac386da6cd1bcfffc35c8ce46dde9d69346c3334d0aefcb81e31208f4", func := "guilloche/guillochelaw10.ScriptReports", spec := "scriptReports", inPlace := ["internal/bytealg.CountString", "internal/bytealg.IndexByteString", "internal/bytealg.IndexString", "internal/abi.NoEscape", "internal/bytealg.MakeNoZero"], unfollowed := true, recurses := true, named := ["unicode/utf8.first", "unicode/utf8.acceptRanges", "internal/bytealg.MaxLen", "guilloche/script.acts", "strconv.ErrSyntax", "strconv.ErrRange", "internal/strconv.uint64pow10", "math/bits.deBruijn32tab", "math/bits.deBruijn64tab", "guilloche/script.events"], apart := false, laid := [("math/bits.deBruijn32tab", laid_math_bits_deBruijn32tab), ("math/bits.deBruijn64tab", laid_math_bits_deBruijn64tab), ("internal/strconv.uint64pow10", laid_internal_strconv_uint64pow10), ("unicode/utf8.acceptRanges", laid_unicode_utf8_acceptRanges), ("strconv.ErrRange", laid_strconv_ErrRange), ("strconv.ErrSyntax", laid_strconv_ErrSyntax), ("guilloche/script.acts", laid_guilloche_script_acts), ("guilloche/script.events", laid_guilloche_script_events), ("unicode/utf8.first", laid_unicode_utf8_first)] }
def ScriptReportsSaid : Prop := scriptReportsRow.holds Tryz.pinned (OpenSpec.ofChange scriptReportsSpec)

/-- ITS FALSE NEIGHBOUR: 'it returns false'. Refute it at one input. -/
def scriptReportsWrong : ChangeSpec := { name := "scriptReports", fn := fun _ => fun
  | [d] => { results := [.lit (.bool false)], args := [d] }
  | _ => none }
def ScriptReportsWrongFalsely : Prop := scriptReportsRow.holds Tryz.pinned (OpenSpec.ofChange scriptReportsWrong)

/-- 'guillochelaw10.ScriptPlantTexts': WHATEVER THE INPUT: true; the input reads as it did. -/
def scriptPlantTextsSpec : ChangeSpec := { name := "scriptPlantTexts", fn := fun _ => fun
  | [d] => { results := [.lit (.bool true)], args := [d] }
  | _ => none }
def scriptPlantTextsRow : OpenClaim := { program := "ytddnmocoaahlfaagreatdoor", sum := "95622efac386da6cd1bcfffc35c8ce46dde9d69346c3334d0aefcb81e31208f4", func := "guilloche/guillochelaw10.ScriptPlantTexts", spec := "scriptPlantTexts", inPlace := ["internal/bytealg.CountString", "internal/bytealg.IndexByteString", "internal/bytealg.IndexString", "internal/abi.NoEscape", "internal/bytealg.MakeNoZero"], unfollowed := true, recurses := true, named := ["unicode/utf8.first", "unicode/utf8.acceptRanges", "internal/bytealg.MaxLen", "guilloche/script.acts", "strconv.ErrSyntax", "strconv.ErrRange", "internal/strconv.uint64pow10", "math/bits.deBruijn32tab", "math/bits.deBruijn64tab"], apart := false, laid := [("math/bits.deBruijn32tab", laid_math_bits_deBruijn32tab), ("math/bits.deBruijn64tab", laid_math_bits_deBruijn64tab), ("internal/strconv.uint64pow10", laid_internal_strconv_uint64pow10), ("unicode/utf8.acceptRanges", laid_unicode_utf8_acceptRanges), ("strconv.ErrRange", laid_strconv_ErrRange), ("strconv.ErrSyntax", laid_strconv_ErrSyntax), ("guilloche/script.acts", laid_guilloche_script_acts), ("unicode/utf8.first", laid_unicode_utf8_first)] }
def ScriptPlantTextsSaid : Prop := scriptPlantTextsRow.holds Tryz.pinned (OpenSpec.ofChange scriptPlantTextsSpec)

/-- ITS FALSE NEIGHBOUR: 'it returns false'. Refute it at one input. -/
def scriptPlantTextsWrong : ChangeSpec := { name := "scriptPlantTexts", fn := fun _ => fun
  | [d] => { results := [.lit (.bool false)], args := [d] }
  | _ => none }
def ScriptPlantTextsWrongFalsely : Prop := scriptPlantTextsRow.holds Tryz.pinned (OpenSpec.ofChange scriptPlantTextsWrong)

/- THE SECOND FORM. 'bulk': how many values and letters a reading holds, each counted each time it is reached (what is shared counts as often as it is met; a slice's spare places count too). A statement '..UptoSaid' is the law's where the arguments, and the package variables that the reading takes, are together of bulk at most 1048576: NARROWER than '..Said'. Prove '..Said' where nothing that the law and all that it calls make is longer than what came in: it says more and counts as full. Else prove '..UptoSaid'. A law counts once. -/
mutual
def uptoBulk {H : Type} : DataW H → Nat
  | .lit (.string bytes) => bytes.length + 1
  | .lit _ => 1
  | .nil => 1
  | .ptr d => uptoBulk d + 1
  | .slice elems spare => uptoBulkAll elems + uptoBulkAll spare + 1
  | .agg parts => uptoBulkAll parts + 1
  | .iface _ d => uptoBulk d + 1
  | .map entries => uptoBulkEntries entries + 1
  | .held _ => 1
def uptoBulkAll {H : Type} : List (DataW H) → Nat
  | [] => 0
  | d :: r => uptoBulk d + uptoBulkAll r
def uptoBulkEntries {H : Type} : List (Lit × DataW H) → Nat
  | [] => 0
  | x :: r => uptoBulkEntry x + uptoBulkEntries r
def uptoBulkEntry {H : Type} : Lit × DataW H → Nat
  | (.string bytes, d) => bytes.length + uptoBulk d + 1
  | (_, d) => uptoBulk d + 1
 end
def uptoSmall : (H : Type) → List (DataW H) → Bool := fun _ ds => decide (uptoBulkAll ds ≤ 1048576)
def OpenSpec.upto (s : _root_.Go.ChangeSpec) : _root_.Go.OpenSpec := { _root_.Go.OpenSpec.ofChange s with cond := some uptoSmall }

/-- 'guillochelaw10.ScriptBack', WHERE WHAT IT READS IS OF BULK AT MOST 1048576: true; the input reads as it did. -/
def scriptBackUptoRow : OpenClaim := { program := "ytddnmocoaahlfaagreatdoor", sum := "95622efac386da6cd1bcfffc35c8ce46dde9d69346c3334d0aefcb81e31208f4", func := "guilloche/guillochelaw10.ScriptBack", spec := "scriptBack", inPlace := ["internal/bytealg.CountString", "internal/bytealg.IndexByteString", "internal/bytealg.IndexString", "internal/abi.NoEscape", "internal/bytealg.MakeNoZero"], unfollowed := true, recurses := true, named := ["unicode/utf8.first", "unicode/utf8.acceptRanges", "internal/bytealg.MaxLen", "guilloche/script.acts", "strconv.ErrSyntax", "strconv.ErrRange", "internal/strconv.uint64pow10", "math/bits.deBruijn32tab", "math/bits.deBruijn64tab", "guilloche/script.events"], apart := false, laid := [("math/bits.deBruijn32tab", laid_math_bits_deBruijn32tab), ("math/bits.deBruijn64tab", laid_math_bits_deBruijn64tab), ("internal/strconv.uint64pow10", laid_internal_strconv_uint64pow10), ("unicode/utf8.acceptRanges", laid_unicode_utf8_acceptRanges), ("strconv.ErrRange", laid_strconv_ErrRange), ("strconv.ErrSyntax", laid_strconv_ErrSyntax), ("guilloche/script.acts", laid_guilloche_script_acts), ("guilloche/script.events", laid_guilloche_script_events), ("unicode/utf8.first", laid_unicode_utf8_first)], narrowed := true }
def ScriptBackUptoSaid : Prop := scriptBackUptoRow.holds Tryz.pinned (OpenSpec.upto scriptBackSpec)

/-- 'guillochelaw10.ScriptOnly', WHERE WHAT IT READS IS OF BULK AT MOST 1048576: true; the input reads as it did. -/
def scriptOnlyUptoRow : OpenClaim := { program := "ytddnmocoaahlfaagreatdoor", sum := "95622efac386da6cd1bcfffc35c8ce46dde9d69346c3334d0aefcb81e31208f4", func := "guilloche/guillochelaw10.ScriptOnly", spec := "scriptOnly", inPlace := ["internal/bytealg.CountString", "internal/bytealg.IndexByteString", "internal/bytealg.IndexString", "internal/abi.NoEscape", "internal/bytealg.MakeNoZero"], unfollowed := true, recurses := true, named := ["unicode/utf8.first", "unicode/utf8.acceptRanges", "internal/bytealg.MaxLen", "guilloche/script.acts", "strconv.ErrSyntax", "strconv.ErrRange", "internal/strconv.uint64pow10", "math/bits.deBruijn32tab", "math/bits.deBruijn64tab", "guilloche/script.events"], apart := false, laid := [("math/bits.deBruijn32tab", laid_math_bits_deBruijn32tab), ("math/bits.deBruijn64tab", laid_math_bits_deBruijn64tab), ("internal/strconv.uint64pow10", laid_internal_strconv_uint64pow10), ("unicode/utf8.acceptRanges", laid_unicode_utf8_acceptRanges), ("strconv.ErrRange", laid_strconv_ErrRange), ("strconv.ErrSyntax", laid_strconv_ErrSyntax), ("guilloche/script.acts", laid_guilloche_script_acts), ("guilloche/script.events", laid_guilloche_script_events), ("unicode/utf8.first", laid_unicode_utf8_first)], narrowed := true }
def ScriptOnlyUptoSaid : Prop := scriptOnlyUptoRow.holds Tryz.pinned (OpenSpec.upto scriptOnlySpec)

/-- 'guillochelaw10.ScriptTexts', WHERE WHAT IT READS IS OF BULK AT MOST 1048576: true; the input reads as it did. -/
def scriptTextsUptoRow : OpenClaim := { program := "ytddnmocoaahlfaagreatdoor", sum := "95622efac386da6cd1bcfffc35c8ce46dde9d69346c3334d0aefcb81e31208f4", func := "guilloche/guillochelaw10.ScriptTexts", spec := "scriptTexts", inPlace := ["internal/bytealg.CountString", "internal/bytealg.IndexByteString", "internal/bytealg.IndexString", "internal/abi.NoEscape", "internal/bytealg.MakeNoZero"], unfollowed := true, recurses := true, named := ["unicode/utf8.first", "unicode/utf8.acceptRanges", "internal/bytealg.MaxLen", "guilloche/script.acts", "strconv.ErrSyntax", "strconv.ErrRange", "internal/strconv.uint64pow10", "math/bits.deBruijn32tab", "math/bits.deBruijn64tab"], apart := false, laid := [("math/bits.deBruijn32tab", laid_math_bits_deBruijn32tab), ("math/bits.deBruijn64tab", laid_math_bits_deBruijn64tab), ("internal/strconv.uint64pow10", laid_internal_strconv_uint64pow10), ("unicode/utf8.acceptRanges", laid_unicode_utf8_acceptRanges), ("strconv.ErrRange", laid_strconv_ErrRange), ("strconv.ErrSyntax", laid_strconv_ErrSyntax), ("guilloche/script.acts", laid_guilloche_script_acts), ("unicode/utf8.first", laid_unicode_utf8_first)], narrowed := true }
def ScriptTextsUptoSaid : Prop := scriptTextsUptoRow.holds Tryz.pinned (OpenSpec.upto scriptTextsSpec)

/-- 'guillochelaw10.ScriptCompiles', WHERE WHAT IT READS IS OF BULK AT MOST 1048576: true; the input reads as it did. -/
def scriptCompilesUptoRow : OpenClaim := { program := "ytddnmocoaahlfaagreatdoor", sum := "95622efac386da6cd1bcfffc35c8ce46dde9d69346c3334d0aefcb81e31208f4", func := "guilloche/guillochelaw10.ScriptCompiles", spec := "scriptCompiles", inPlace := ["internal/bytealg.CountString", "internal/bytealg.IndexByteString", "internal/bytealg.IndexString", "internal/abi.NoEscape", "internal/bytealg.MakeNoZero"], unfollowed := true, recurses := true, named := ["unicode/utf8.first", "unicode/utf8.acceptRanges", "internal/bytealg.MaxLen", "guilloche/script.acts", "strconv.ErrSyntax", "strconv.ErrRange", "internal/strconv.uint64pow10", "math/bits.deBruijn32tab", "math/bits.deBruijn64tab"], apart := false, laid := [("math/bits.deBruijn32tab", laid_math_bits_deBruijn32tab), ("math/bits.deBruijn64tab", laid_math_bits_deBruijn64tab), ("internal/strconv.uint64pow10", laid_internal_strconv_uint64pow10), ("unicode/utf8.acceptRanges", laid_unicode_utf8_acceptRanges), ("strconv.ErrRange", laid_strconv_ErrRange), ("strconv.ErrSyntax", laid_strconv_ErrSyntax), ("guilloche/script.acts", laid_guilloche_script_acts), ("unicode/utf8.first", laid_unicode_utf8_first)], narrowed := true }
def ScriptCompilesUptoSaid : Prop := scriptCompilesUptoRow.holds Tryz.pinned (OpenSpec.upto scriptCompilesSpec)

/-- 'guillochelaw10.ScriptCompiled', WHERE WHAT IT READS IS OF BULK AT MOST 1048576: true; the input reads as it did. -/
def scriptCompiledUptoRow : OpenClaim := { program := "ytddnmocoaahlfaagreatdoor", sum := "95622efac386da6cd1bcfffc35c8ce46dde9d69346c3334d0aefcb81e31208f4", func := "guilloche/guillochelaw10.ScriptCompiled", spec := "scriptCompiled", inPlace := ["internal/bytealg.CountString", "internal/bytealg.IndexByteString", "internal/bytealg.IndexString", "internal/abi.NoEscape", "internal/bytealg.MakeNoZero"], unfollowed := true, recurses := true, named := ["unicode/utf8.first", "unicode/utf8.acceptRanges", "internal/bytealg.MaxLen", "guilloche/script.acts", "strconv.ErrSyntax", "strconv.ErrRange", "internal/strconv.uint64pow10", "math/bits.deBruijn32tab", "math/bits.deBruijn64tab"], apart := false, laid := [("math/bits.deBruijn32tab", laid_math_bits_deBruijn32tab), ("math/bits.deBruijn64tab", laid_math_bits_deBruijn64tab), ("internal/strconv.uint64pow10", laid_internal_strconv_uint64pow10), ("unicode/utf8.acceptRanges", laid_unicode_utf8_acceptRanges), ("strconv.ErrRange", laid_strconv_ErrRange), ("strconv.ErrSyntax", laid_strconv_ErrSyntax), ("guilloche/script.acts", laid_guilloche_script_acts), ("unicode/utf8.first", laid_unicode_utf8_first)], narrowed := true }
def ScriptCompiledUptoSaid : Prop := scriptCompiledUptoRow.holds Tryz.pinned (OpenSpec.upto scriptCompiledSpec)

/-- 'guillochelaw10.ScriptUnrolled', WHERE WHAT IT READS IS OF BULK AT MOST 1048576: true; the input reads as it did. -/
def scriptUnrolledUptoRow : OpenClaim := { program := "ytddnmocoaahlfaagreatdoor", sum := "95622efac386da6cd1bcfffc35c8ce46dde9d69346c3334d0aefcb81e31208f4", func := "guilloche/guillochelaw10.ScriptUnrolled", spec := "scriptUnrolled", inPlace := ["internal/bytealg.CountString", "internal/bytealg.IndexByteString", "internal/bytealg.IndexString", "internal/abi.NoEscape", "internal/bytealg.MakeNoZero"], unfollowed := true, recurses := true, named := ["unicode/utf8.first", "unicode/utf8.acceptRanges", "internal/bytealg.MaxLen", "guilloche/script.acts", "strconv.ErrSyntax", "strconv.ErrRange", "internal/strconv.uint64pow10", "math/bits.deBruijn32tab", "math/bits.deBruijn64tab"], apart := false, laid := [("math/bits.deBruijn32tab", laid_math_bits_deBruijn32tab), ("math/bits.deBruijn64tab", laid_math_bits_deBruijn64tab), ("internal/strconv.uint64pow10", laid_internal_strconv_uint64pow10), ("unicode/utf8.acceptRanges", laid_unicode_utf8_acceptRanges), ("strconv.ErrRange", laid_strconv_ErrRange), ("strconv.ErrSyntax", laid_strconv_ErrSyntax), ("guilloche/script.acts", laid_guilloche_script_acts), ("unicode/utf8.first", laid_unicode_utf8_first)], narrowed := true }
def ScriptUnrolledUptoSaid : Prop := scriptUnrolledUptoRow.holds Tryz.pinned (OpenSpec.upto scriptUnrolledSpec)

/-- 'guillochelaw10.ScriptSpaced', WHERE WHAT IT READS IS OF BULK AT MOST 1048576: true; the input reads as it did. -/
def scriptSpacedUptoRow : OpenClaim := { program := "ytddnmocoaahlfaagreatdoor", sum := "95622efac386da6cd1bcfffc35c8ce46dde9d69346c3334d0aefcb81e31208f4", func := "guilloche/guillochelaw10.ScriptSpaced", spec := "scriptSpaced", inPlace := ["internal/bytealg.CountString", "internal/bytealg.IndexByteString", "internal/bytealg.IndexString", "internal/abi.NoEscape", "internal/bytealg.MakeNoZero"], unfollowed := true, recurses := true, named := ["unicode/utf8.first", "unicode/utf8.acceptRanges", "internal/bytealg.MaxLen", "guilloche/script.acts", "strconv.ErrSyntax", "strconv.ErrRange", "internal/strconv.uint64pow10", "math/bits.deBruijn32tab", "math/bits.deBruijn64tab"], apart := false, laid := [("math/bits.deBruijn32tab", laid_math_bits_deBruijn32tab), ("math/bits.deBruijn64tab", laid_math_bits_deBruijn64tab), ("internal/strconv.uint64pow10", laid_internal_strconv_uint64pow10), ("unicode/utf8.acceptRanges", laid_unicode_utf8_acceptRanges), ("strconv.ErrRange", laid_strconv_ErrRange), ("strconv.ErrSyntax", laid_strconv_ErrSyntax), ("guilloche/script.acts", laid_guilloche_script_acts), ("unicode/utf8.first", laid_unicode_utf8_first)], narrowed := true }
def ScriptSpacedUptoSaid : Prop := scriptSpacedUptoRow.holds Tryz.pinned (OpenSpec.upto scriptSpacedSpec)

/-- 'guillochelaw10.ScriptEvals', WHERE WHAT IT READS IS OF BULK AT MOST 1048576: true; the input reads as it did. -/
def scriptEvalsUptoRow : OpenClaim := { program := "ytddnmocoaahlfaagreatdoor", sum := "95622efac386da6cd1bcfffc35c8ce46dde9d69346c3334d0aefcb81e31208f4", func := "guilloche/guillochelaw10.ScriptEvals", spec := "scriptEvals", inPlace := ["internal/bytealg.CountString", "internal/bytealg.IndexByteString", "internal/bytealg.IndexString", "internal/abi.NoEscape", "internal/bytealg.MakeNoZero"], unfollowed := true, recurses := true, named := ["unicode/utf8.first", "unicode/utf8.acceptRanges", "internal/bytealg.MaxLen", "guilloche/script.acts", "strconv.ErrSyntax", "strconv.ErrRange", "internal/strconv.uint64pow10", "math/bits.deBruijn32tab", "math/bits.deBruijn64tab"], apart := false, laid := [("math/bits.deBruijn32tab", laid_math_bits_deBruijn32tab), ("math/bits.deBruijn64tab", laid_math_bits_deBruijn64tab), ("internal/strconv.uint64pow10", laid_internal_strconv_uint64pow10), ("unicode/utf8.acceptRanges", laid_unicode_utf8_acceptRanges), ("strconv.ErrRange", laid_strconv_ErrRange), ("strconv.ErrSyntax", laid_strconv_ErrSyntax), ("guilloche/script.acts", laid_guilloche_script_acts), ("unicode/utf8.first", laid_unicode_utf8_first)], narrowed := true }
def ScriptEvalsUptoSaid : Prop := scriptEvalsUptoRow.holds Tryz.pinned (OpenSpec.upto scriptEvalsSpec)

/-- 'guillochelaw10.ScriptChoices', WHERE WHAT IT READS IS OF BULK AT MOST 1048576: true; the input reads as it did. -/
def scriptChoicesUptoRow : OpenClaim := { program := "ytddnmocoaahlfaagreatdoor", sum := "95622efac386da6cd1bcfffc35c8ce46dde9d69346c3334d0aefcb81e31208f4", func := "guilloche/guillochelaw10.ScriptChoices", spec := "scriptChoices", inPlace := ["internal/bytealg.CountString", "internal/bytealg.IndexByteString", "internal/bytealg.IndexString", "internal/abi.NoEscape", "internal/bytealg.MakeNoZero"], unfollowed := true, recurses := true, named := ["unicode/utf8.first", "unicode/utf8.acceptRanges", "internal/bytealg.MaxLen", "guilloche/script.acts", "strconv.ErrSyntax", "strconv.ErrRange", "internal/strconv.uint64pow10", "math/bits.deBruijn32tab", "math/bits.deBruijn64tab"], apart := false, laid := [("math/bits.deBruijn32tab", laid_math_bits_deBruijn32tab), ("math/bits.deBruijn64tab", laid_math_bits_deBruijn64tab), ("internal/strconv.uint64pow10", laid_internal_strconv_uint64pow10), ("unicode/utf8.acceptRanges", laid_unicode_utf8_acceptRanges), ("strconv.ErrRange", laid_strconv_ErrRange), ("strconv.ErrSyntax", laid_strconv_ErrSyntax), ("guilloche/script.acts", laid_guilloche_script_acts), ("unicode/utf8.first", laid_unicode_utf8_first)], narrowed := true }
def ScriptChoicesUptoSaid : Prop := scriptChoicesUptoRow.holds Tryz.pinned (OpenSpec.upto scriptChoicesSpec)

/-- 'guillochelaw10.ScriptValues', WHERE WHAT IT READS IS OF BULK AT MOST 1048576: true; the input reads as it did. -/
def scriptValuesUptoRow : OpenClaim := { program := "ytddnmocoaahlfaagreatdoor", sum := "95622efac386da6cd1bcfffc35c8ce46dde9d69346c3334d0aefcb81e31208f4", func := "guilloche/guillochelaw10.ScriptValues", spec := "scriptValues", inPlace := ["internal/bytealg.CountString", "internal/bytealg.IndexByteString", "internal/bytealg.IndexString", "internal/abi.NoEscape", "internal/bytealg.MakeNoZero"], unfollowed := true, recurses := true, named := ["unicode/utf8.first", "unicode/utf8.acceptRanges", "internal/bytealg.MaxLen", "guilloche/script.acts", "strconv.ErrSyntax", "strconv.ErrRange", "internal/strconv.uint64pow10", "math/bits.deBruijn32tab", "math/bits.deBruijn64tab"], apart := false, laid := [("math/bits.deBruijn32tab", laid_math_bits_deBruijn32tab), ("math/bits.deBruijn64tab", laid_math_bits_deBruijn64tab), ("internal/strconv.uint64pow10", laid_internal_strconv_uint64pow10), ("unicode/utf8.acceptRanges", laid_unicode_utf8_acceptRanges), ("strconv.ErrRange", laid_strconv_ErrRange), ("strconv.ErrSyntax", laid_strconv_ErrSyntax), ("guilloche/script.acts", laid_guilloche_script_acts), ("unicode/utf8.first", laid_unicode_utf8_first)], narrowed := true }
def ScriptValuesUptoSaid : Prop := scriptValuesUptoRow.holds Tryz.pinned (OpenSpec.upto scriptValuesSpec)

/-- 'guillochelaw10.ScriptParses', WHERE WHAT IT READS IS OF BULK AT MOST 1048576: true; the input reads as it did. -/
def scriptParsesUptoRow : OpenClaim := { program := "ytddnmocoaahlfaagreatdoor", sum := "95622efac386da6cd1bcfffc35c8ce46dde9d69346c3334d0aefcb81e31208f4", func := "guilloche/guillochelaw10.ScriptParses", spec := "scriptParses", inPlace := ["internal/bytealg.CountString", "internal/bytealg.IndexByteString", "internal/bytealg.IndexString", "internal/abi.NoEscape", "internal/bytealg.MakeNoZero"], unfollowed := true, recurses := true, named := ["unicode/utf8.first", "unicode/utf8.acceptRanges", "internal/bytealg.MaxLen", "guilloche/script.acts", "strconv.ErrSyntax", "strconv.ErrRange", "internal/strconv.uint64pow10", "math/bits.deBruijn32tab", "math/bits.deBruijn64tab"], apart := false, laid := [("math/bits.deBruijn32tab", laid_math_bits_deBruijn32tab), ("math/bits.deBruijn64tab", laid_math_bits_deBruijn64tab), ("internal/strconv.uint64pow10", laid_internal_strconv_uint64pow10), ("unicode/utf8.acceptRanges", laid_unicode_utf8_acceptRanges), ("strconv.ErrRange", laid_strconv_ErrRange), ("strconv.ErrSyntax", laid_strconv_ErrSyntax), ("guilloche/script.acts", laid_guilloche_script_acts), ("unicode/utf8.first", laid_unicode_utf8_first)], narrowed := true }
def ScriptParsesUptoSaid : Prop := scriptParsesUptoRow.holds Tryz.pinned (OpenSpec.upto scriptParsesSpec)

/-- 'guillochelaw10.ScriptEvents', WHERE WHAT IT READS IS OF BULK AT MOST 1048576: true; the input reads as it did. -/
def scriptEventsUptoRow : OpenClaim := { program := "ytddnmocoaahlfaagreatdoor", sum := "95622efac386da6cd1bcfffc35c8ce46dde9d69346c3334d0aefcb81e31208f4", func := "guilloche/guillochelaw10.ScriptEvents", spec := "scriptEvents", inPlace := ["internal/bytealg.CountString", "internal/bytealg.IndexByteString", "internal/bytealg.IndexString", "internal/abi.NoEscape", "internal/bytealg.MakeNoZero"], unfollowed := true, recurses := true, named := ["unicode/utf8.first", "unicode/utf8.acceptRanges", "internal/bytealg.MaxLen", "guilloche/script.acts", "strconv.ErrSyntax", "strconv.ErrRange", "internal/strconv.uint64pow10", "math/bits.deBruijn32tab", "math/bits.deBruijn64tab", "guilloche/script.events"], apart := false, laid := [("math/bits.deBruijn32tab", laid_math_bits_deBruijn32tab), ("math/bits.deBruijn64tab", laid_math_bits_deBruijn64tab), ("internal/strconv.uint64pow10", laid_internal_strconv_uint64pow10), ("unicode/utf8.acceptRanges", laid_unicode_utf8_acceptRanges), ("strconv.ErrRange", laid_strconv_ErrRange), ("strconv.ErrSyntax", laid_strconv_ErrSyntax), ("guilloche/script.acts", laid_guilloche_script_acts), ("guilloche/script.events", laid_guilloche_script_events), ("unicode/utf8.first", laid_unicode_utf8_first)], narrowed := true }
def ScriptEventsUptoSaid : Prop := scriptEventsUptoRow.holds Tryz.pinned (OpenSpec.upto scriptEventsSpec)

/-- 'guillochelaw10.ScriptPlants', WHERE WHAT IT READS IS OF BULK AT MOST 1048576: true; the input reads as it did. -/
def scriptPlantsUptoRow : OpenClaim := { program := "ytddnmocoaahlfaagreatdoor", sum := "95622efac386da6cd1bcfffc35c8ce46dde9d69346c3334d0aefcb81e31208f4", func := "guilloche/guillochelaw10.ScriptPlants", spec := "scriptPlants", inPlace := ["internal/bytealg.CountString", "internal/bytealg.IndexByteString", "internal/bytealg.IndexString", "internal/abi.NoEscape", "internal/bytealg.MakeNoZero"], unfollowed := true, recurses := true, named := ["unicode/utf8.first", "unicode/utf8.acceptRanges", "internal/bytealg.MaxLen", "guilloche/script.acts", "strconv.ErrSyntax", "strconv.ErrRange", "internal/strconv.uint64pow10", "math/bits.deBruijn32tab", "math/bits.deBruijn64tab"], apart := false, laid := [("math/bits.deBruijn32tab", laid_math_bits_deBruijn32tab), ("math/bits.deBruijn64tab", laid_math_bits_deBruijn64tab), ("internal/strconv.uint64pow10", laid_internal_strconv_uint64pow10), ("unicode/utf8.acceptRanges", laid_unicode_utf8_acceptRanges), ("strconv.ErrRange", laid_strconv_ErrRange), ("strconv.ErrSyntax", laid_strconv_ErrSyntax), ("guilloche/script.acts", laid_guilloche_script_acts), ("unicode/utf8.first", laid_unicode_utf8_first)], narrowed := true }
def ScriptPlantsUptoSaid : Prop := scriptPlantsUptoRow.holds Tryz.pinned (OpenSpec.upto scriptPlantsSpec)

/-- 'guillochelaw10.ScriptReports', WHERE WHAT IT READS IS OF BULK AT MOST 1048576: true; the input reads as it did. -/
def scriptReportsUptoRow : OpenClaim := { program := "ytddnmocoaahlfaagreatdoor", sum := "95622efac386da6cd1bcfffc35c8ce46dde9d69346c3334d0aefcb81e31208f4", func := "guilloche/guillochelaw10.ScriptReports", spec := "scriptReports", inPlace := ["internal/bytealg.CountString", "internal/bytealg.IndexByteString", "internal/bytealg.IndexString", "internal/abi.NoEscape", "internal/bytealg.MakeNoZero"], unfollowed := true, recurses := true, named := ["unicode/utf8.first", "unicode/utf8.acceptRanges", "internal/bytealg.MaxLen", "guilloche/script.acts", "strconv.ErrSyntax", "strconv.ErrRange", "internal/strconv.uint64pow10", "math/bits.deBruijn32tab", "math/bits.deBruijn64tab", "guilloche/script.events"], apart := false, laid := [("math/bits.deBruijn32tab", laid_math_bits_deBruijn32tab), ("math/bits.deBruijn64tab", laid_math_bits_deBruijn64tab), ("internal/strconv.uint64pow10", laid_internal_strconv_uint64pow10), ("unicode/utf8.acceptRanges", laid_unicode_utf8_acceptRanges), ("strconv.ErrRange", laid_strconv_ErrRange), ("strconv.ErrSyntax", laid_strconv_ErrSyntax), ("guilloche/script.acts", laid_guilloche_script_acts), ("guilloche/script.events", laid_guilloche_script_events), ("unicode/utf8.first", laid_unicode_utf8_first)], narrowed := true }
def ScriptReportsUptoSaid : Prop := scriptReportsUptoRow.holds Tryz.pinned (OpenSpec.upto scriptReportsSpec)

/-- 'guillochelaw10.ScriptPlantTexts', WHERE WHAT IT READS IS OF BULK AT MOST 1048576: true; the input reads as it did. -/
def scriptPlantTextsUptoRow : OpenClaim := { program := "ytddnmocoaahlfaagreatdoor", sum := "95622efac386da6cd1bcfffc35c8ce46dde9d69346c3334d0aefcb81e31208f4", func := "guilloche/guillochelaw10.ScriptPlantTexts", spec := "scriptPlantTexts", inPlace := ["internal/bytealg.CountString", "internal/bytealg.IndexByteString", "internal/bytealg.IndexString", "internal/abi.NoEscape", "internal/bytealg.MakeNoZero"], unfollowed := true, recurses := true, named := ["unicode/utf8.first", "unicode/utf8.acceptRanges", "internal/bytealg.MaxLen", "guilloche/script.acts", "strconv.ErrSyntax", "strconv.ErrRange", "internal/strconv.uint64pow10", "math/bits.deBruijn32tab", "math/bits.deBruijn64tab"], apart := false, laid := [("math/bits.deBruijn32tab", laid_math_bits_deBruijn32tab), ("math/bits.deBruijn64tab", laid_math_bits_deBruijn64tab), ("internal/strconv.uint64pow10", laid_internal_strconv_uint64pow10), ("unicode/utf8.acceptRanges", laid_unicode_utf8_acceptRanges), ("strconv.ErrRange", laid_strconv_ErrRange), ("strconv.ErrSyntax", laid_strconv_ErrSyntax), ("guilloche/script.acts", laid_guilloche_script_acts), ("unicode/utf8.first", laid_unicode_utf8_first)], narrowed := true }
def ScriptPlantTextsUptoSaid : Prop := scriptPlantTextsUptoRow.holds Tryz.pinned (OpenSpec.upto scriptPlantTextsSpec)

end Rows
end Go.Proofs.YtddnmocoaahlfaaGreatDoor
