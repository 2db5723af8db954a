/-
  No cell of these rows narrows 'for every input' (looked for: loops, veiled, ifaces, maps, wideKeys, modest, calm, conditions, laid).
  DERIVED. THE GIVEN ROWS OF THIS SEAT. 28 by the template 'for every input the law returns true; each argument reads behind the call as it read before'; 0 by the template 'total and deterministic' (their statements: YtppbhjhbaknidaaTotals.lean).
  GIVEN WITH THE SEED: the statements are not yours to turn. If you find one false, say at which input.
  Laid BY PROGRAM, IN A SANDBOX (cutbox-rows.mjs): the forced cells as the released guide's own fill.sh prints them over the translation 0ddaea8d07f39b47… (all of the seat's roots in one cut). By AI agents, Wed Nov 11 2026. No macro, syntax, notation, axiom, sorry.
-/
import Derived.Test.YtppbhjhbaknidaaChecked
import GoSem.Claim
import GoSem.ClaimJoined
import GoSem.ClaimMapViews
import Derived.JoinedTies
import Derived.KernelRfl
namespace Go.Proofs.Ytppbhjhbaknidaa
/- THE CELL 'sum', in the pinned program and in every row, IS THE sha256 OF THE DUMP (.gsa) THAT YtppbhjhbaknidaaProg.lean LOADS. Nothing in Lean hashes anything: it is a label: what it is worth is what the hold of that sum in a sandbox is worth. -/
noncomputable def Try.pinned : Pinned := { name := "ytppbhjhbaknidaa", sum := "0ddaea8d07f39b477df890eab136c5d09396f517537841a57216883785462b85", checked := Try.checked }
namespace Rows
def none {H : Type} : Left H := { results := [], args := [] }

/-- 'guillochelaw01.NatParses': WHATEVER THE INPUT: true; the input reads as it did. -/
def natParsesSpec : ChangeSpec := { name := "natParses", fn := fun _ => fun
  | [d] => { results := [.lit (.bool true)], args := [d] }
  | _ => none }
def natParsesRow : OpenClaim := { program := "ytppbhjhbaknidaa", sum := "0ddaea8d07f39b477df890eab136c5d09396f517537841a57216883785462b85", func := "guilloche/guillochelaw01.NatParses", spec := "natParses", inPlace := ["internal/abi.NoEscape"], recurses := true, apart := false }
def NatParsesSaid : Prop := natParsesRow.holds Try.pinned (OpenSpec.ofChange natParsesSpec)

/-- ITS FALSE NEIGHBOUR: 'it returns false'. Refute it at one input. -/
def natParsesWrong : ChangeSpec := { name := "natParses", fn := fun _ => fun
  | [d] => { results := [.lit (.bool false)], args := [d] }
  | _ => none }
def NatParsesWrongFalsely : Prop := natParsesRow.holds Try.pinned (OpenSpec.ofChange natParsesWrong)

/-- 'guillochelaw01.NatProducts': WHATEVER THE INPUT: true; the input reads as it did. -/
def natProductsSpec : ChangeSpec := { name := "natProducts", fn := fun _ => fun
  | [d1, d2] => { results := [.lit (.bool true)], args := [d1, d2] }
  | _ => none }
def natProductsRow : OpenClaim := { program := "ytppbhjhbaknidaa", sum := "0ddaea8d07f39b477df890eab136c5d09396f517537841a57216883785462b85", func := "guilloche/guillochelaw01.NatProducts", spec := "natProducts", inPlace := ["internal/abi.NoEscape"], recurses := true, apart := false }
def NatProductsSaid : Prop := natProductsRow.holds Try.pinned (OpenSpec.ofChange natProductsSpec)

/-- ITS FALSE NEIGHBOUR: 'it returns false'. Refute it at one input. -/
def natProductsWrong : ChangeSpec := { name := "natProducts", fn := fun _ => fun
  | [d1, d2] => { results := [.lit (.bool false)], args := [d1, d2] }
  | _ => none }
def NatProductsWrongFalsely : Prop := natProductsRow.holds Try.pinned (OpenSpec.ofChange natProductsWrong)

/-- 'guillochelaw01.NatGcds': WHATEVER THE INPUT: true; the input reads as it did. -/
def natGcdsSpec : ChangeSpec := { name := "natGcds", fn := fun _ => fun
  | [d1, d2] => { results := [.lit (.bool true)], args := [d1, d2] }
  | _ => none }
def natGcdsRow : OpenClaim := { program := "ytppbhjhbaknidaa", sum := "0ddaea8d07f39b477df890eab136c5d09396f517537841a57216883785462b85", func := "guilloche/guillochelaw01.NatGcds", spec := "natGcds", inPlace := ["internal/abi.NoEscape"], recurses := true, apart := false }
def NatGcdsSaid : Prop := natGcdsRow.holds Try.pinned (OpenSpec.ofChange natGcdsSpec)

/-- ITS FALSE NEIGHBOUR: 'it returns false'. Refute it at one input. -/
def natGcdsWrong : ChangeSpec := { name := "natGcds", fn := fun _ => fun
  | [d1, d2] => { results := [.lit (.bool false)], args := [d1, d2] }
  | _ => none }
def NatGcdsWrongFalsely : Prop := natGcdsRow.holds Try.pinned (OpenSpec.ofChange natGcdsWrong)

/-- 'guillochelaw01.NatRing': WHATEVER THE INPUT: true; the input reads as it did. -/
def natRingSpec : ChangeSpec := { name := "natRing", fn := fun _ => fun
  | [d1, d2, d3] => { results := [.lit (.bool true)], args := [d1, d2, d3] }
  | _ => none }
def natRingRow : OpenClaim := { program := "ytppbhjhbaknidaa", sum := "0ddaea8d07f39b477df890eab136c5d09396f517537841a57216883785462b85", func := "guilloche/guillochelaw01.NatRing", spec := "natRing", inPlace := ["internal/abi.NoEscape"], recurses := true, apart := false }
def NatRingSaid : Prop := natRingRow.holds Try.pinned (OpenSpec.ofChange natRingSpec)

/-- ITS FALSE NEIGHBOUR: 'it returns false'. Refute it at one input. -/
def natRingWrong : ChangeSpec := { name := "natRing", fn := fun _ => fun
  | [d1, d2, d3] => { results := [.lit (.bool false)], args := [d1, d2, d3] }
  | _ => none }
def NatRingWrongFalsely : Prop := natRingRow.holds Try.pinned (OpenSpec.ofChange natRingWrong)

/-- 'guillochelaw01.NatFracs': WHATEVER THE INPUT: true; the input reads as it did. -/
def natFracsSpec : ChangeSpec := { name := "natFracs", fn := fun _ => fun
  | [d1, d2] => { results := [.lit (.bool true)], args := [d1, d2] }
  | _ => none }
def natFracsRow : OpenClaim := { program := "ytppbhjhbaknidaa", sum := "0ddaea8d07f39b477df890eab136c5d09396f517537841a57216883785462b85", func := "guilloche/guillochelaw01.NatFracs", spec := "natFracs", inPlace := ["internal/abi.NoEscape"], recurses := true, apart := false }
def NatFracsSaid : Prop := natFracsRow.holds Try.pinned (OpenSpec.ofChange natFracsSpec)

/-- ITS FALSE NEIGHBOUR: 'it returns false'. Refute it at one input. -/
def natFracsWrong : ChangeSpec := { name := "natFracs", fn := fun _ => fun
  | [d1, d2] => { results := [.lit (.bool false)], args := [d1, d2] }
  | _ => none }
def NatFracsWrongFalsely : Prop := natFracsRow.holds Try.pinned (OpenSpec.ofChange natFracsWrong)

/-- 'guillochelaw01.NatSums': WHATEVER THE INPUT: true; the input reads as it did. -/
def natSumsSpec : ChangeSpec := { name := "natSums", fn := fun _ => fun
  | [d1, d2] => { results := [.lit (.bool true)], args := [d1, d2] }
  | _ => none }
def natSumsRow : OpenClaim := { program := "ytppbhjhbaknidaa", sum := "0ddaea8d07f39b477df890eab136c5d09396f517537841a57216883785462b85", func := "guilloche/guillochelaw01.NatSums", spec := "natSums", inPlace := ["internal/abi.NoEscape"], recurses := true, apart := false }
def NatSumsSaid : Prop := natSumsRow.holds Try.pinned (OpenSpec.ofChange natSumsSpec)

/-- ITS FALSE NEIGHBOUR: 'it returns false'. Refute it at one input. -/
def natSumsWrong : ChangeSpec := { name := "natSums", fn := fun _ => fun
  | [d1, d2] => { results := [.lit (.bool false)], args := [d1, d2] }
  | _ => none }
def NatSumsWrongFalsely : Prop := natSumsRow.holds Try.pinned (OpenSpec.ofChange natSumsWrong)

/-- 'guillochelaw01.NatDivides': WHATEVER THE INPUT: true; the input reads as it did. -/
def natDividesSpec : ChangeSpec := { name := "natDivides", fn := fun _ => fun
  | [d1, d2] => { results := [.lit (.bool true)], args := [d1, d2] }
  | _ => none }
def natDividesRow : OpenClaim := { program := "ytppbhjhbaknidaa", sum := "0ddaea8d07f39b477df890eab136c5d09396f517537841a57216883785462b85", func := "guilloche/guillochelaw01.NatDivides", spec := "natDivides", inPlace := ["internal/abi.NoEscape"], recurses := true, apart := false }
def NatDividesSaid : Prop := natDividesRow.holds Try.pinned (OpenSpec.ofChange natDividesSpec)

/-- ITS FALSE NEIGHBOUR: 'it returns false'. Refute it at one input. -/
def natDividesWrong : ChangeSpec := { name := "natDivides", fn := fun _ => fun
  | [d1, d2] => { results := [.lit (.bool false)], args := [d1, d2] }
  | _ => none }
def NatDividesWrongFalsely : Prop := natDividesRow.holds Try.pinned (OpenSpec.ofChange natDividesWrong)

/-- 'guillochelaw01.NatBack': WHATEVER THE INPUT: true; the input reads as it did. -/
def natBackSpec : ChangeSpec := { name := "natBack", fn := fun _ => fun
  | [d1, d2] => { results := [.lit (.bool true)], args := [d1, d2] }
  | _ => none }
def natBackRow : OpenClaim := { program := "ytppbhjhbaknidaa", sum := "0ddaea8d07f39b477df890eab136c5d09396f517537841a57216883785462b85", func := "guilloche/guillochelaw01.NatBack", spec := "natBack", inPlace := ["internal/abi.NoEscape"], recurses := true, apart := false }
def NatBackSaid : Prop := natBackRow.holds Try.pinned (OpenSpec.ofChange natBackSpec)

/-- ITS FALSE NEIGHBOUR: 'it returns false'. Refute it at one input. -/
def natBackWrong : ChangeSpec := { name := "natBack", fn := fun _ => fun
  | [d1, d2] => { results := [.lit (.bool false)], args := [d1, d2] }
  | _ => none }
def NatBackWrongFalsely : Prop := natBackRow.holds Try.pinned (OpenSpec.ofChange natBackWrong)

/-- 'guillochelaw01.NatLcm': WHATEVER THE INPUT: true; the input reads as it did. -/
def natLcmSpec : ChangeSpec := { name := "natLcm", fn := fun _ => fun
  | [d1, d2] => { results := [.lit (.bool true)], args := [d1, d2] }
  | _ => none }
def natLcmRow : OpenClaim := { program := "ytppbhjhbaknidaa", sum := "0ddaea8d07f39b477df890eab136c5d09396f517537841a57216883785462b85", func := "guilloche/guillochelaw01.NatLcm", spec := "natLcm", inPlace := ["internal/abi.NoEscape"], recurses := true, apart := false }
def NatLcmSaid : Prop := natLcmRow.holds Try.pinned (OpenSpec.ofChange natLcmSpec)

/-- ITS FALSE NEIGHBOUR: 'it returns false'. Refute it at one input. -/
def natLcmWrong : ChangeSpec := { name := "natLcm", fn := fun _ => fun
  | [d1, d2] => { results := [.lit (.bool false)], args := [d1, d2] }
  | _ => none }
def NatLcmWrongFalsely : Prop := natLcmRow.holds Try.pinned (OpenSpec.ofChange natLcmWrong)

/-- 'guillochelaw01.NatFracOrder': WHATEVER THE INPUT: true; the input reads as it did. -/
def natFracOrderSpec : ChangeSpec := { name := "natFracOrder", fn := fun _ => fun
  | [d1, d2, d3, d4, d5, d6] => { results := [.lit (.bool true)], args := [d1, d2, d3, d4, d5, d6] }
  | _ => none }
def natFracOrderRow : OpenClaim := { program := "ytppbhjhbaknidaa", sum := "0ddaea8d07f39b477df890eab136c5d09396f517537841a57216883785462b85", func := "guilloche/guillochelaw01.NatFracOrder", spec := "natFracOrder", inPlace := ["internal/abi.NoEscape"], recurses := true, apart := false }
def NatFracOrderSaid : Prop := natFracOrderRow.holds Try.pinned (OpenSpec.ofChange natFracOrderSpec)

/-- ITS FALSE NEIGHBOUR: 'it returns false'. Refute it at one input. -/
def natFracOrderWrong : ChangeSpec := { name := "natFracOrder", fn := fun _ => fun
  | [d1, d2, d3, d4, d5, d6] => { results := [.lit (.bool false)], args := [d1, d2, d3, d4, d5, d6] }
  | _ => none }
def NatFracOrderWrongFalsely : Prop := natFracOrderRow.holds Try.pinned (OpenSpec.ofChange natFracOrderWrong)

/-- 'guillochelaw01.NatNew': WHATEVER THE INPUT: true; the input reads as it did. -/
def natNewSpec : ChangeSpec := { name := "natNew", fn := fun _ => fun
  | [d] => { results := [.lit (.bool true)], args := [d] }
  | _ => none }
def natNewRow : OpenClaim := { program := "ytppbhjhbaknidaa", sum := "0ddaea8d07f39b477df890eab136c5d09396f517537841a57216883785462b85", func := "guilloche/guillochelaw01.NatNew", spec := "natNew", inPlace := ["internal/abi.NoEscape"], recurses := true, apart := false }
def NatNewSaid : Prop := natNewRow.holds Try.pinned (OpenSpec.ofChange natNewSpec)

/-- ITS FALSE NEIGHBOUR: 'it returns false'. Refute it at one input. -/
def natNewWrong : ChangeSpec := { name := "natNew", fn := fun _ => fun
  | [d] => { results := [.lit (.bool false)], args := [d] }
  | _ => none }
def NatNewWrongFalsely : Prop := natNewRow.holds Try.pinned (OpenSpec.ofChange natNewWrong)

/-- 'guillochelaw01.NatBinomials': WHATEVER THE INPUT: true; the input reads as it did. -/
def natBinomialsSpec : ChangeSpec := { name := "natBinomials", fn := fun _ => fun
  | [d1, d2] => { results := [.lit (.bool true)], args := [d1, d2] }
  | _ => none }
def natBinomialsRow : OpenClaim := { program := "ytppbhjhbaknidaa", sum := "0ddaea8d07f39b477df890eab136c5d09396f517537841a57216883785462b85", func := "guilloche/guillochelaw01.NatBinomials", spec := "natBinomials", inPlace := ["internal/abi.NoEscape"], recurses := true, apart := false }
def NatBinomialsSaid : Prop := natBinomialsRow.holds Try.pinned (OpenSpec.ofChange natBinomialsSpec)

/-- ITS FALSE NEIGHBOUR: 'it returns false'. Refute it at one input. -/
def natBinomialsWrong : ChangeSpec := { name := "natBinomials", fn := fun _ => fun
  | [d1, d2] => { results := [.lit (.bool false)], args := [d1, d2] }
  | _ => none }
def NatBinomialsWrongFalsely : Prop := natBinomialsRow.holds Try.pinned (OpenSpec.ofChange natBinomialsWrong)

/-- 'guillochelaw01.NatRoots': WHATEVER THE INPUT: true; the input reads as it did. -/
def natRootsSpec : ChangeSpec := { name := "natRoots", fn := fun _ => fun
  | [d] => { results := [.lit (.bool true)], args := [d] }
  | _ => none }
def natRootsRow : OpenClaim := { program := "ytppbhjhbaknidaa", sum := "0ddaea8d07f39b477df890eab136c5d09396f517537841a57216883785462b85", func := "guilloche/guillochelaw01.NatRoots", spec := "natRoots", inPlace := ["internal/abi.NoEscape"], recurses := true, apart := false }
def NatRootsSaid : Prop := natRootsRow.holds Try.pinned (OpenSpec.ofChange natRootsSpec)

/-- ITS FALSE NEIGHBOUR: 'it returns false'. Refute it at one input. -/
def natRootsWrong : ChangeSpec := { name := "natRoots", fn := fun _ => fun
  | [d] => { results := [.lit (.bool false)], args := [d] }
  | _ => none }
def NatRootsWrongFalsely : Prop := natRootsRow.holds Try.pinned (OpenSpec.ofChange natRootsWrong)

/-- 'guillochelaw01.NatPascal': WHATEVER THE INPUT: true; the input reads as it did. -/
def natPascalSpec : ChangeSpec := { name := "natPascal", fn := fun _ => fun
  | [d1, d2] => { results := [.lit (.bool true)], args := [d1, d2] }
  | _ => none }
def natPascalRow : OpenClaim := { program := "ytppbhjhbaknidaa", sum := "0ddaea8d07f39b477df890eab136c5d09396f517537841a57216883785462b85", func := "guilloche/guillochelaw01.NatPascal", spec := "natPascal", inPlace := ["internal/abi.NoEscape"], recurses := true, apart := false }
def NatPascalSaid : Prop := natPascalRow.holds Try.pinned (OpenSpec.ofChange natPascalSpec)

/-- ITS FALSE NEIGHBOUR: 'it returns false'. Refute it at one input. -/
def natPascalWrong : ChangeSpec := { name := "natPascal", fn := fun _ => fun
  | [d1, d2] => { results := [.lit (.bool false)], args := [d1, d2] }
  | _ => none }
def NatPascalWrongFalsely : Prop := natPascalRow.holds Try.pinned (OpenSpec.ofChange natPascalWrong)

/-- 'guillochelaw01.NatShifts': WHATEVER THE INPUT: true; the input reads as it did. -/
def natShiftsSpec : ChangeSpec := { name := "natShifts", fn := fun _ => fun
  | [d1, d2] => { results := [.lit (.bool true)], args := [d1, d2] }
  | _ => none }
def natShiftsRow : OpenClaim := { program := "ytppbhjhbaknidaa", sum := "0ddaea8d07f39b477df890eab136c5d09396f517537841a57216883785462b85", func := "guilloche/guillochelaw01.NatShifts", spec := "natShifts", inPlace := ["internal/abi.NoEscape"], recurses := true, apart := false }
def NatShiftsSaid : Prop := natShiftsRow.holds Try.pinned (OpenSpec.ofChange natShiftsSpec)

/-- ITS FALSE NEIGHBOUR: 'it returns false'. Refute it at one input. -/
def natShiftsWrong : ChangeSpec := { name := "natShifts", fn := fun _ => fun
  | [d1, d2] => { results := [.lit (.bool false)], args := [d1, d2] }
  | _ => none }
def NatShiftsWrongFalsely : Prop := natShiftsRow.holds Try.pinned (OpenSpec.ofChange natShiftsWrong)

/-- 'guillochelaw01.NatReads': WHATEVER THE INPUT: true; the input reads as it did. -/
def natReadsSpec : ChangeSpec := { name := "natReads", fn := fun _ => fun
  | [d1, d2] => { results := [.lit (.bool true)], args := [d1, d2] }
  | _ => none }
def natReadsRow : OpenClaim := { program := "ytppbhjhbaknidaa", sum := "0ddaea8d07f39b477df890eab136c5d09396f517537841a57216883785462b85", func := "guilloche/guillochelaw01.NatReads", spec := "natReads", inPlace := ["internal/abi.NoEscape"], recurses := true, apart := false }
def NatReadsSaid : Prop := natReadsRow.holds Try.pinned (OpenSpec.ofChange natReadsSpec)

/-- ITS FALSE NEIGHBOUR: 'it returns false'. Refute it at one input. -/
def natReadsWrong : ChangeSpec := { name := "natReads", fn := fun _ => fun
  | [d1, d2] => { results := [.lit (.bool false)], args := [d1, d2] }
  | _ => none }
def NatReadsWrongFalsely : Prop := natReadsRow.holds Try.pinned (OpenSpec.ofChange natReadsWrong)

/-- 'guillochelaw01.NatPowMods': WHATEVER THE INPUT: true; the input reads as it did. -/
def natPowModsSpec : ChangeSpec := { name := "natPowMods", fn := fun _ => fun
  | [d1, d2, d3] => { results := [.lit (.bool true)], args := [d1, d2, d3] }
  | _ => none }
def natPowModsRow : OpenClaim := { program := "ytppbhjhbaknidaa", sum := "0ddaea8d07f39b477df890eab136c5d09396f517537841a57216883785462b85", func := "guilloche/guillochelaw01.NatPowMods", spec := "natPowMods", inPlace := ["internal/abi.NoEscape"], recurses := true, apart := false }
def NatPowModsSaid : Prop := natPowModsRow.holds Try.pinned (OpenSpec.ofChange natPowModsSpec)

/-- ITS FALSE NEIGHBOUR: 'it returns false'. Refute it at one input. -/
def natPowModsWrong : ChangeSpec := { name := "natPowMods", fn := fun _ => fun
  | [d1, d2, d3] => { results := [.lit (.bool false)], args := [d1, d2, d3] }
  | _ => none }
def NatPowModsWrongFalsely : Prop := natPowModsRow.holds Try.pinned (OpenSpec.ofChange natPowModsWrong)

/-- 'guillochelaw01.NatPowers': WHATEVER THE INPUT: true; the input reads as it did. -/
def natPowersSpec : ChangeSpec := { name := "natPowers", fn := fun _ => fun
  | [d1, d2] => { results := [.lit (.bool true)], args := [d1, d2] }
  | _ => none }
def natPowersRow : OpenClaim := { program := "ytppbhjhbaknidaa", sum := "0ddaea8d07f39b477df890eab136c5d09396f517537841a57216883785462b85", func := "guilloche/guillochelaw01.NatPowers", spec := "natPowers", inPlace := ["internal/abi.NoEscape"], recurses := true, apart := false }
def NatPowersSaid : Prop := natPowersRow.holds Try.pinned (OpenSpec.ofChange natPowersSpec)

/-- ITS FALSE NEIGHBOUR: 'it returns false'. Refute it at one input. -/
def natPowersWrong : ChangeSpec := { name := "natPowers", fn := fun _ => fun
  | [d1, d2] => { results := [.lit (.bool false)], args := [d1, d2] }
  | _ => none }
def NatPowersWrongFalsely : Prop := natPowersRow.holds Try.pinned (OpenSpec.ofChange natPowersWrong)

/-- 'guillochelaw01.NatFracEdge': WHATEVER THE INPUT: true; the input reads as it did. -/
def natFracEdgeSpec : ChangeSpec := { name := "natFracEdge", fn := fun _ => fun
  | [d1, d2] => { results := [.lit (.bool true)], args := [d1, d2] }
  | _ => none }
def natFracEdgeRow : OpenClaim := { program := "ytppbhjhbaknidaa", sum := "0ddaea8d07f39b477df890eab136c5d09396f517537841a57216883785462b85", func := "guilloche/guillochelaw01.NatFracEdge", spec := "natFracEdge", inPlace := ["internal/abi.NoEscape"], recurses := true, apart := false }
def NatFracEdgeSaid : Prop := natFracEdgeRow.holds Try.pinned (OpenSpec.ofChange natFracEdgeSpec)

/-- ITS FALSE NEIGHBOUR: 'it returns false'. Refute it at one input. -/
def natFracEdgeWrong : ChangeSpec := { name := "natFracEdge", fn := fun _ => fun
  | [d1, d2] => { results := [.lit (.bool false)], args := [d1, d2] }
  | _ => none }
def NatFracEdgeWrongFalsely : Prop := natFracEdgeRow.holds Try.pinned (OpenSpec.ofChange natFracEdgeWrong)

/-- 'guillochelaw01.NatInverses': WHATEVER THE INPUT: true; the input reads as it did. -/
def natInversesSpec : ChangeSpec := { name := "natInverses", fn := fun _ => fun
  | [d1, d2] => { results := [.lit (.bool true)], args := [d1, d2] }
  | _ => none }
def natInversesRow : OpenClaim := { program := "ytppbhjhbaknidaa", sum := "0ddaea8d07f39b477df890eab136c5d09396f517537841a57216883785462b85", func := "guilloche/guillochelaw01.NatInverses", spec := "natInverses", inPlace := ["internal/abi.NoEscape"], recurses := true, apart := false }
def NatInversesSaid : Prop := natInversesRow.holds Try.pinned (OpenSpec.ofChange natInversesSpec)

/-- ITS FALSE NEIGHBOUR: 'it returns false'. Refute it at one input. -/
def natInversesWrong : ChangeSpec := { name := "natInverses", fn := fun _ => fun
  | [d1, d2] => { results := [.lit (.bool false)], args := [d1, d2] }
  | _ => none }
def NatInversesWrongFalsely : Prop := natInversesRow.holds Try.pinned (OpenSpec.ofChange natInversesWrong)

/-- 'guillochelaw01.NatEdge': WHATEVER THE INPUT: true; the input reads as it did. -/
def natEdgeSpec : ChangeSpec := { name := "natEdge", fn := fun _ => fun
  | [d1, d2] => { results := [.lit (.bool true)], args := [d1, d2] }
  | _ => none }
def natEdgeRow : OpenClaim := { program := "ytppbhjhbaknidaa", sum := "0ddaea8d07f39b477df890eab136c5d09396f517537841a57216883785462b85", func := "guilloche/guillochelaw01.NatEdge", spec := "natEdge", inPlace := ["internal/abi.NoEscape"], recurses := true, apart := false }
def NatEdgeSaid : Prop := natEdgeRow.holds Try.pinned (OpenSpec.ofChange natEdgeSpec)

/-- ITS FALSE NEIGHBOUR: 'it returns false'. Refute it at one input. -/
def natEdgeWrong : ChangeSpec := { name := "natEdge", fn := fun _ => fun
  | [d1, d2] => { results := [.lit (.bool false)], args := [d1, d2] }
  | _ => none }
def NatEdgeWrongFalsely : Prop := natEdgeRow.holds Try.pinned (OpenSpec.ofChange natEdgeWrong)

/-- 'guillochelaw01.NatFracSums': WHATEVER THE INPUT: true; the input reads as it did. -/
def natFracSumsSpec : ChangeSpec := { name := "natFracSums", fn := fun _ => fun
  | [d1, d2, d3, d4] => { results := [.lit (.bool true)], args := [d1, d2, d3, d4] }
  | _ => none }
def natFracSumsRow : OpenClaim := { program := "ytppbhjhbaknidaa", sum := "0ddaea8d07f39b477df890eab136c5d09396f517537841a57216883785462b85", func := "guilloche/guillochelaw01.NatFracSums", spec := "natFracSums", inPlace := ["internal/abi.NoEscape"], recurses := true, apart := false }
def NatFracSumsSaid : Prop := natFracSumsRow.holds Try.pinned (OpenSpec.ofChange natFracSumsSpec)

/-- ITS FALSE NEIGHBOUR: 'it returns false'. Refute it at one input. -/
def natFracSumsWrong : ChangeSpec := { name := "natFracSums", fn := fun _ => fun
  | [d1, d2, d3, d4] => { results := [.lit (.bool false)], args := [d1, d2, d3, d4] }
  | _ => none }
def NatFracSumsWrongFalsely : Prop := natFracSumsRow.holds Try.pinned (OpenSpec.ofChange natFracSumsWrong)

/-- 'guillochelaw01.NatExponents': WHATEVER THE INPUT: true; the input reads as it did. -/
def natExponentsSpec : ChangeSpec := { name := "natExponents", fn := fun _ => fun
  | [d1, d2, d3, d4] => { results := [.lit (.bool true)], args := [d1, d2, d3, d4] }
  | _ => none }
def natExponentsRow : OpenClaim := { program := "ytppbhjhbaknidaa", sum := "0ddaea8d07f39b477df890eab136c5d09396f517537841a57216883785462b85", func := "guilloche/guillochelaw01.NatExponents", spec := "natExponents", inPlace := ["internal/abi.NoEscape"], recurses := true, apart := false }
def NatExponentsSaid : Prop := natExponentsRow.holds Try.pinned (OpenSpec.ofChange natExponentsSpec)

/-- ITS FALSE NEIGHBOUR: 'it returns false'. Refute it at one input. -/
def natExponentsWrong : ChangeSpec := { name := "natExponents", fn := fun _ => fun
  | [d1, d2, d3, d4] => { results := [.lit (.bool false)], args := [d1, d2, d3, d4] }
  | _ => none }
def NatExponentsWrongFalsely : Prop := natExponentsRow.holds Try.pinned (OpenSpec.ofChange natExponentsWrong)

/-- 'guillochelaw01.NatBests': WHATEVER THE INPUT: true; the input reads as it did. -/
def natBestsSpec : ChangeSpec := { name := "natBests", fn := fun _ => fun
  | [d1, d2, d3] => { results := [.lit (.bool true)], args := [d1, d2, d3] }
  | _ => none }
def natBestsRow : OpenClaim := { program := "ytppbhjhbaknidaa", sum := "0ddaea8d07f39b477df890eab136c5d09396f517537841a57216883785462b85", func := "guilloche/guillochelaw01.NatBests", spec := "natBests", inPlace := ["internal/abi.NoEscape"], recurses := true, apart := false }
def NatBestsSaid : Prop := natBestsRow.holds Try.pinned (OpenSpec.ofChange natBestsSpec)

/-- ITS FALSE NEIGHBOUR: 'it returns false'. Refute it at one input. -/
def natBestsWrong : ChangeSpec := { name := "natBests", fn := fun _ => fun
  | [d1, d2, d3] => { results := [.lit (.bool false)], args := [d1, d2, d3] }
  | _ => none }
def NatBestsWrongFalsely : Prop := natBestsRow.holds Try.pinned (OpenSpec.ofChange natBestsWrong)

/-- 'guillochelaw01.NatNearest': WHATEVER THE INPUT: true; the input reads as it did. -/
def natNearestSpec : ChangeSpec := { name := "natNearest", fn := fun _ => fun
  | [d1, d2, d3, d4, d5] => { results := [.lit (.bool true)], args := [d1, d2, d3, d4, d5] }
  | _ => none }
def natNearestRow : OpenClaim := { program := "ytppbhjhbaknidaa", sum := "0ddaea8d07f39b477df890eab136c5d09396f517537841a57216883785462b85", func := "guilloche/guillochelaw01.NatNearest", spec := "natNearest", inPlace := ["internal/abi.NoEscape"], recurses := true, apart := false }
def NatNearestSaid : Prop := natNearestRow.holds Try.pinned (OpenSpec.ofChange natNearestSpec)

/-- ITS FALSE NEIGHBOUR: 'it returns false'. Refute it at one input. -/
def natNearestWrong : ChangeSpec := { name := "natNearest", fn := fun _ => fun
  | [d1, d2, d3, d4, d5] => { results := [.lit (.bool false)], args := [d1, d2, d3, d4, d5] }
  | _ => none }
def NatNearestWrongFalsely : Prop := natNearestRow.holds Try.pinned (OpenSpec.ofChange natNearestWrong)

/-- 'guillochelaw01.NatKeeps': WHATEVER THE INPUT: true; the input reads as it did. -/
def natKeepsSpec : ChangeSpec := { name := "natKeeps", fn := fun _ => fun
  | [d1, d2, d3] => { results := [.lit (.bool true)], args := [d1, d2, d3] }
  | _ => none }
def natKeepsRow : OpenClaim := { program := "ytppbhjhbaknidaa", sum := "0ddaea8d07f39b477df890eab136c5d09396f517537841a57216883785462b85", func := "guilloche/guillochelaw01.NatKeeps", spec := "natKeeps", inPlace := ["internal/abi.NoEscape"], recurses := true, apart := false }
def NatKeepsSaid : Prop := natKeepsRow.holds Try.pinned (OpenSpec.ofChange natKeepsSpec)

/-- ITS FALSE NEIGHBOUR: 'it returns false'. Refute it at one input. -/
def natKeepsWrong : ChangeSpec := { name := "natKeeps", fn := fun _ => fun
  | [d1, d2, d3] => { results := [.lit (.bool false)], args := [d1, d2, d3] }
  | _ => none }
def NatKeepsWrongFalsely : Prop := natKeepsRow.holds Try.pinned (OpenSpec.ofChange natKeepsWrong)

/-- 'guillochelaw01.NatFracTexts': WHATEVER THE INPUT: true; the input reads as it did. -/
def natFracTextsSpec : ChangeSpec := { name := "natFracTexts", fn := fun _ => fun
  | [d] => { results := [.lit (.bool true)], args := [d] }
  | _ => none }
def natFracTextsRow : OpenClaim := { program := "ytppbhjhbaknidaa", sum := "0ddaea8d07f39b477df890eab136c5d09396f517537841a57216883785462b85", func := "guilloche/guillochelaw01.NatFracTexts", spec := "natFracTexts", inPlace := ["internal/abi.NoEscape", "internal/bytealg.IndexByteString", "internal/bytealg.IndexString"], recurses := true, named := ["internal/bytealg.MaxLen"], apart := false }
def NatFracTextsSaid : Prop := natFracTextsRow.holds Try.pinned (OpenSpec.ofChange natFracTextsSpec)

/-- ITS FALSE NEIGHBOUR: 'it returns false'. Refute it at one input. -/
def natFracTextsWrong : ChangeSpec := { name := "natFracTexts", fn := fun _ => fun
  | [d] => { results := [.lit (.bool false)], args := [d] }
  | _ => none }
def NatFracTextsWrongFalsely : Prop := natFracTextsRow.holds Try.pinned (OpenSpec.ofChange natFracTextsWrong)

/-- 'guillochelaw01.NatFracField': WHATEVER THE INPUT: true; the input reads as it did. -/
def natFracFieldSpec : ChangeSpec := { name := "natFracField", fn := fun _ => fun
  | [d1, d2, d3, d4, d5, d6] => { results := [.lit (.bool true)], args := [d1, d2, d3, d4, d5, d6] }
  | _ => none }
def natFracFieldRow : OpenClaim := { program := "ytppbhjhbaknidaa", sum := "0ddaea8d07f39b477df890eab136c5d09396f517537841a57216883785462b85", func := "guilloche/guillochelaw01.NatFracField", spec := "natFracField", inPlace := ["internal/abi.NoEscape", "internal/bytealg.IndexByteString", "internal/bytealg.IndexString"], recurses := true, named := ["internal/bytealg.MaxLen"], apart := false }
def NatFracFieldSaid : Prop := natFracFieldRow.holds Try.pinned (OpenSpec.ofChange natFracFieldSpec)

/-- ITS FALSE NEIGHBOUR: 'it returns false'. Refute it at one input. -/
def natFracFieldWrong : ChangeSpec := { name := "natFracField", fn := fun _ => fun
  | [d1, d2, d3, d4, d5, d6] => { results := [.lit (.bool false)], args := [d1, d2, d3, d4, d5, d6] }
  | _ => none }
def NatFracFieldWrongFalsely : Prop := natFracFieldRow.holds Try.pinned (OpenSpec.ofChange natFracFieldWrong)

/- THE SECOND FORM. 'bulk': how many values and letters a reading holds, each counted each time it is reached (what is shared counts as often as it is met; a slice's spare places count too). A statement '..UptoSaid' is the law's where the arguments, and the package variables that the reading takes, are together of bulk at most 1048576: NARROWER than '..Said'. Prove '..Said' where nothing that the law and all that it calls make is longer than what came in: it says more and counts as full. Else prove '..UptoSaid'. A law counts once. -/
mutual
def uptoBulk {H : Type} : DataW H → Nat
  | .lit (.string bytes) => bytes.length + 1
  | .lit _ => 1
  | .nil => 1
  | .ptr d => uptoBulk d + 1
  | .slice elems spare => uptoBulkAll elems + uptoBulkAll spare + 1
  | .agg parts => uptoBulkAll parts + 1
  | .iface _ d => uptoBulk d + 1
  | .map entries => uptoBulkEntries entries + 1
  | .held _ => 1
def uptoBulkAll {H : Type} : List (DataW H) → Nat
  | [] => 0
  | d :: r => uptoBulk d + uptoBulkAll r
def uptoBulkEntries {H : Type} : List (Lit × DataW H) → Nat
  | [] => 0
  | x :: r => uptoBulkEntry x + uptoBulkEntries r
def uptoBulkEntry {H : Type} : Lit × DataW H → Nat
  | (.string bytes, d) => bytes.length + uptoBulk d + 1
  | (_, d) => uptoBulk d + 1
 end
def uptoSmall : (H : Type) → List (DataW H) → Bool := fun _ ds => decide (uptoBulkAll ds ≤ 1048576)
def OpenSpec.upto (s : _root_.Go.ChangeSpec) : _root_.Go.OpenSpec := { _root_.Go.OpenSpec.ofChange s with cond := some uptoSmall }

/-- 'guillochelaw01.NatParses', WHERE WHAT IT READS IS OF BULK AT MOST 1048576: true; the input reads as it did. -/
def natParsesUptoRow : OpenClaim := { program := "ytppbhjhbaknidaa", sum := "0ddaea8d07f39b477df890eab136c5d09396f517537841a57216883785462b85", func := "guilloche/guillochelaw01.NatParses", spec := "natParses", inPlace := ["internal/abi.NoEscape"], recurses := true, apart := false, narrowed := true }
def NatParsesUptoSaid : Prop := natParsesUptoRow.holds Try.pinned (OpenSpec.upto natParsesSpec)

/-- 'guillochelaw01.NatProducts', WHERE WHAT IT READS IS OF BULK AT MOST 1048576: true; the input reads as it did. -/
def natProductsUptoRow : OpenClaim := { program := "ytppbhjhbaknidaa", sum := "0ddaea8d07f39b477df890eab136c5d09396f517537841a57216883785462b85", func := "guilloche/guillochelaw01.NatProducts", spec := "natProducts", inPlace := ["internal/abi.NoEscape"], recurses := true, apart := false, narrowed := true }
def NatProductsUptoSaid : Prop := natProductsUptoRow.holds Try.pinned (OpenSpec.upto natProductsSpec)

/-- 'guillochelaw01.NatGcds', WHERE WHAT IT READS IS OF BULK AT MOST 1048576: true; the input reads as it did. -/
def natGcdsUptoRow : OpenClaim := { program := "ytppbhjhbaknidaa", sum := "0ddaea8d07f39b477df890eab136c5d09396f517537841a57216883785462b85", func := "guilloche/guillochelaw01.NatGcds", spec := "natGcds", inPlace := ["internal/abi.NoEscape"], recurses := true, apart := false, narrowed := true }
def NatGcdsUptoSaid : Prop := natGcdsUptoRow.holds Try.pinned (OpenSpec.upto natGcdsSpec)

/-- 'guillochelaw01.NatRing', WHERE WHAT IT READS IS OF BULK AT MOST 1048576: true; the input reads as it did. -/
def natRingUptoRow : OpenClaim := { program := "ytppbhjhbaknidaa", sum := "0ddaea8d07f39b477df890eab136c5d09396f517537841a57216883785462b85", func := "guilloche/guillochelaw01.NatRing", spec := "natRing", inPlace := ["internal/abi.NoEscape"], recurses := true, apart := false, narrowed := true }
def NatRingUptoSaid : Prop := natRingUptoRow.holds Try.pinned (OpenSpec.upto natRingSpec)

/-- 'guillochelaw01.NatFracs', WHERE WHAT IT READS IS OF BULK AT MOST 1048576: true; the input reads as it did. -/
def natFracsUptoRow : OpenClaim := { program := "ytppbhjhbaknidaa", sum := "0ddaea8d07f39b477df890eab136c5d09396f517537841a57216883785462b85", func := "guilloche/guillochelaw01.NatFracs", spec := "natFracs", inPlace := ["internal/abi.NoEscape"], recurses := true, apart := false, narrowed := true }
def NatFracsUptoSaid : Prop := natFracsUptoRow.holds Try.pinned (OpenSpec.upto natFracsSpec)

/-- 'guillochelaw01.NatSums', WHERE WHAT IT READS IS OF BULK AT MOST 1048576: true; the input reads as it did. -/
def natSumsUptoRow : OpenClaim := { program := "ytppbhjhbaknidaa", sum := "0ddaea8d07f39b477df890eab136c5d09396f517537841a57216883785462b85", func := "guilloche/guillochelaw01.NatSums", spec := "natSums", inPlace := ["internal/abi.NoEscape"], recurses := true, apart := false, narrowed := true }
def NatSumsUptoSaid : Prop := natSumsUptoRow.holds Try.pinned (OpenSpec.upto natSumsSpec)

/-- 'guillochelaw01.NatDivides', WHERE WHAT IT READS IS OF BULK AT MOST 1048576: true; the input reads as it did. -/
def natDividesUptoRow : OpenClaim := { program := "ytppbhjhbaknidaa", sum := "0ddaea8d07f39b477df890eab136c5d09396f517537841a57216883785462b85", func := "guilloche/guillochelaw01.NatDivides", spec := "natDivides", inPlace := ["internal/abi.NoEscape"], recurses := true, apart := false, narrowed := true }
def NatDividesUptoSaid : Prop := natDividesUptoRow.holds Try.pinned (OpenSpec.upto natDividesSpec)

/-- 'guillochelaw01.NatBack', WHERE WHAT IT READS IS OF BULK AT MOST 1048576: true; the input reads as it did. -/
def natBackUptoRow : OpenClaim := { program := "ytppbhjhbaknidaa", sum := "0ddaea8d07f39b477df890eab136c5d09396f517537841a57216883785462b85", func := "guilloche/guillochelaw01.NatBack", spec := "natBack", inPlace := ["internal/abi.NoEscape"], recurses := true, apart := false, narrowed := true }
def NatBackUptoSaid : Prop := natBackUptoRow.holds Try.pinned (OpenSpec.upto natBackSpec)

/-- 'guillochelaw01.NatLcm', WHERE WHAT IT READS IS OF BULK AT MOST 1048576: true; the input reads as it did. -/
def natLcmUptoRow : OpenClaim := { program := "ytppbhjhbaknidaa", sum := "0ddaea8d07f39b477df890eab136c5d09396f517537841a57216883785462b85", func := "guilloche/guillochelaw01.NatLcm", spec := "natLcm", inPlace := ["internal/abi.NoEscape"], recurses := true, apart := false, narrowed := true }
def NatLcmUptoSaid : Prop := natLcmUptoRow.holds Try.pinned (OpenSpec.upto natLcmSpec)

/-- 'guillochelaw01.NatFracOrder', WHERE WHAT IT READS IS OF BULK AT MOST 1048576: true; the input reads as it did. -/
def natFracOrderUptoRow : OpenClaim := { program := "ytppbhjhbaknidaa", sum := "0ddaea8d07f39b477df890eab136c5d09396f517537841a57216883785462b85", func := "guilloche/guillochelaw01.NatFracOrder", spec := "natFracOrder", inPlace := ["internal/abi.NoEscape"], recurses := true, apart := false, narrowed := true }
def NatFracOrderUptoSaid : Prop := natFracOrderUptoRow.holds Try.pinned (OpenSpec.upto natFracOrderSpec)

/-- 'guillochelaw01.NatNew', WHERE WHAT IT READS IS OF BULK AT MOST 1048576: true; the input reads as it did. -/
def natNewUptoRow : OpenClaim := { program := "ytppbhjhbaknidaa", sum := "0ddaea8d07f39b477df890eab136c5d09396f517537841a57216883785462b85", func := "guilloche/guillochelaw01.NatNew", spec := "natNew", inPlace := ["internal/abi.NoEscape"], recurses := true, apart := false, narrowed := true }
def NatNewUptoSaid : Prop := natNewUptoRow.holds Try.pinned (OpenSpec.upto natNewSpec)

/-- 'guillochelaw01.NatBinomials', WHERE WHAT IT READS IS OF BULK AT MOST 1048576: true; the input reads as it did. -/
def natBinomialsUptoRow : OpenClaim := { program := "ytppbhjhbaknidaa", sum := "0ddaea8d07f39b477df890eab136c5d09396f517537841a57216883785462b85", func := "guilloche/guillochelaw01.NatBinomials", spec := "natBinomials", inPlace := ["internal/abi.NoEscape"], recurses := true, apart := false, narrowed := true }
def NatBinomialsUptoSaid : Prop := natBinomialsUptoRow.holds Try.pinned (OpenSpec.upto natBinomialsSpec)

/-- 'guillochelaw01.NatRoots', WHERE WHAT IT READS IS OF BULK AT MOST 1048576: true; the input reads as it did. -/
def natRootsUptoRow : OpenClaim := { program := "ytppbhjhbaknidaa", sum := "0ddaea8d07f39b477df890eab136c5d09396f517537841a57216883785462b85", func := "guilloche/guillochelaw01.NatRoots", spec := "natRoots", inPlace := ["internal/abi.NoEscape"], recurses := true, apart := false, narrowed := true }
def NatRootsUptoSaid : Prop := natRootsUptoRow.holds Try.pinned (OpenSpec.upto natRootsSpec)

/-- 'guillochelaw01.NatPascal', WHERE WHAT IT READS IS OF BULK AT MOST 1048576: true; the input reads as it did. -/
def natPascalUptoRow : OpenClaim := { program := "ytppbhjhbaknidaa", sum := "0ddaea8d07f39b477df890eab136c5d09396f517537841a57216883785462b85", func := "guilloche/guillochelaw01.NatPascal", spec := "natPascal", inPlace := ["internal/abi.NoEscape"], recurses := true, apart := false, narrowed := true }
def NatPascalUptoSaid : Prop := natPascalUptoRow.holds Try.pinned (OpenSpec.upto natPascalSpec)

/-- 'guillochelaw01.NatShifts', WHERE WHAT IT READS IS OF BULK AT MOST 1048576: true; the input reads as it did. -/
def natShiftsUptoRow : OpenClaim := { program := "ytppbhjhbaknidaa", sum := "0ddaea8d07f39b477df890eab136c5d09396f517537841a57216883785462b85", func := "guilloche/guillochelaw01.NatShifts", spec := "natShifts", inPlace := ["internal/abi.NoEscape"], recurses := true, apart := false, narrowed := true }
def NatShiftsUptoSaid : Prop := natShiftsUptoRow.holds Try.pinned (OpenSpec.upto natShiftsSpec)

/-- 'guillochelaw01.NatReads', WHERE WHAT IT READS IS OF BULK AT MOST 1048576: true; the input reads as it did. -/
def natReadsUptoRow : OpenClaim := { program := "ytppbhjhbaknidaa", sum := "0ddaea8d07f39b477df890eab136c5d09396f517537841a57216883785462b85", func := "guilloche/guillochelaw01.NatReads", spec := "natReads", inPlace := ["internal/abi.NoEscape"], recurses := true, apart := false, narrowed := true }
def NatReadsUptoSaid : Prop := natReadsUptoRow.holds Try.pinned (OpenSpec.upto natReadsSpec)

/-- 'guillochelaw01.NatPowMods', WHERE WHAT IT READS IS OF BULK AT MOST 1048576: true; the input reads as it did. -/
def natPowModsUptoRow : OpenClaim := { program := "ytppbhjhbaknidaa", sum := "0ddaea8d07f39b477df890eab136c5d09396f517537841a57216883785462b85", func := "guilloche/guillochelaw01.NatPowMods", spec := "natPowMods", inPlace := ["internal/abi.NoEscape"], recurses := true, apart := false, narrowed := true }
def NatPowModsUptoSaid : Prop := natPowModsUptoRow.holds Try.pinned (OpenSpec.upto natPowModsSpec)

/-- 'guillochelaw01.NatPowers', WHERE WHAT IT READS IS OF BULK AT MOST 1048576: true; the input reads as it did. -/
def natPowersUptoRow : OpenClaim := { program := "ytppbhjhbaknidaa", sum := "0ddaea8d07f39b477df890eab136c5d09396f517537841a57216883785462b85", func := "guilloche/guillochelaw01.NatPowers", spec := "natPowers", inPlace := ["internal/abi.NoEscape"], recurses := true, apart := false, narrowed := true }
def NatPowersUptoSaid : Prop := natPowersUptoRow.holds Try.pinned (OpenSpec.upto natPowersSpec)

/-- 'guillochelaw01.NatFracEdge', WHERE WHAT IT READS IS OF BULK AT MOST 1048576: true; the input reads as it did. -/
def natFracEdgeUptoRow : OpenClaim := { program := "ytppbhjhbaknidaa", sum := "0ddaea8d07f39b477df890eab136c5d09396f517537841a57216883785462b85", func := "guilloche/guillochelaw01.NatFracEdge", spec := "natFracEdge", inPlace := ["internal/abi.NoEscape"], recurses := true, apart := false, narrowed := true }
def NatFracEdgeUptoSaid : Prop := natFracEdgeUptoRow.holds Try.pinned (OpenSpec.upto natFracEdgeSpec)

/-- 'guillochelaw01.NatInverses', WHERE WHAT IT READS IS OF BULK AT MOST 1048576: true; the input reads as it did. -/
def natInversesUptoRow : OpenClaim := { program := "ytppbhjhbaknidaa", sum := "0ddaea8d07f39b477df890eab136c5d09396f517537841a57216883785462b85", func := "guilloche/guillochelaw01.NatInverses", spec := "natInverses", inPlace := ["internal/abi.NoEscape"], recurses := true, apart := false, narrowed := true }
def NatInversesUptoSaid : Prop := natInversesUptoRow.holds Try.pinned (OpenSpec.upto natInversesSpec)

/-- 'guillochelaw01.NatEdge', WHERE WHAT IT READS IS OF BULK AT MOST 1048576: true; the input reads as it did. -/
def natEdgeUptoRow : OpenClaim := { program := "ytppbhjhbaknidaa", sum := "0ddaea8d07f39b477df890eab136c5d09396f517537841a57216883785462b85", func := "guilloche/guillochelaw01.NatEdge", spec := "natEdge", inPlace := ["internal/abi.NoEscape"], recurses := true, apart := false, narrowed := true }
def NatEdgeUptoSaid : Prop := natEdgeUptoRow.holds Try.pinned (OpenSpec.upto natEdgeSpec)

/-- 'guillochelaw01.NatFracSums', WHERE WHAT IT READS IS OF BULK AT MOST 1048576: true; the input reads as it did. -/
def natFracSumsUptoRow : OpenClaim := { program := "ytppbhjhbaknidaa", sum := "0ddaea8d07f39b477df890eab136c5d09396f517537841a57216883785462b85", func := "guilloche/guillochelaw01.NatFracSums", spec := "natFracSums", inPlace := ["internal/abi.NoEscape"], recurses := true, apart := false, narrowed := true }
def NatFracSumsUptoSaid : Prop := natFracSumsUptoRow.holds Try.pinned (OpenSpec.upto natFracSumsSpec)

/-- 'guillochelaw01.NatExponents', WHERE WHAT IT READS IS OF BULK AT MOST 1048576: true; the input reads as it did. -/
def natExponentsUptoRow : OpenClaim := { program := "ytppbhjhbaknidaa", sum := "0ddaea8d07f39b477df890eab136c5d09396f517537841a57216883785462b85", func := "guilloche/guillochelaw01.NatExponents", spec := "natExponents", inPlace := ["internal/abi.NoEscape"], recurses := true, apart := false, narrowed := true }
def NatExponentsUptoSaid : Prop := natExponentsUptoRow.holds Try.pinned (OpenSpec.upto natExponentsSpec)

/-- 'guillochelaw01.NatBests', WHERE WHAT IT READS IS OF BULK AT MOST 1048576: true; the input reads as it did. -/
def natBestsUptoRow : OpenClaim := { program := "ytppbhjhbaknidaa", sum := "0ddaea8d07f39b477df890eab136c5d09396f517537841a57216883785462b85", func := "guilloche/guillochelaw01.NatBests", spec := "natBests", inPlace := ["internal/abi.NoEscape"], recurses := true, apart := false, narrowed := true }
def NatBestsUptoSaid : Prop := natBestsUptoRow.holds Try.pinned (OpenSpec.upto natBestsSpec)

/-- 'guillochelaw01.NatNearest', WHERE WHAT IT READS IS OF BULK AT MOST 1048576: true; the input reads as it did. -/
def natNearestUptoRow : OpenClaim := { program := "ytppbhjhbaknidaa", sum := "0ddaea8d07f39b477df890eab136c5d09396f517537841a57216883785462b85", func := "guilloche/guillochelaw01.NatNearest", spec := "natNearest", inPlace := ["internal/abi.NoEscape"], recurses := true, apart := false, narrowed := true }
def NatNearestUptoSaid : Prop := natNearestUptoRow.holds Try.pinned (OpenSpec.upto natNearestSpec)

/-- 'guillochelaw01.NatKeeps', WHERE WHAT IT READS IS OF BULK AT MOST 1048576: true; the input reads as it did. -/
def natKeepsUptoRow : OpenClaim := { program := "ytppbhjhbaknidaa", sum := "0ddaea8d07f39b477df890eab136c5d09396f517537841a57216883785462b85", func := "guilloche/guillochelaw01.NatKeeps", spec := "natKeeps", inPlace := ["internal/abi.NoEscape"], recurses := true, apart := false, narrowed := true }
def NatKeepsUptoSaid : Prop := natKeepsUptoRow.holds Try.pinned (OpenSpec.upto natKeepsSpec)

/-- 'guillochelaw01.NatFracTexts', WHERE WHAT IT READS IS OF BULK AT MOST 1048576: true; the input reads as it did. -/
def natFracTextsUptoRow : OpenClaim := { program := "ytppbhjhbaknidaa", sum := "0ddaea8d07f39b477df890eab136c5d09396f517537841a57216883785462b85", func := "guilloche/guillochelaw01.NatFracTexts", spec := "natFracTexts", inPlace := ["internal/abi.NoEscape", "internal/bytealg.IndexByteString", "internal/bytealg.IndexString"], recurses := true, named := ["internal/bytealg.MaxLen"], apart := false, narrowed := true }
def NatFracTextsUptoSaid : Prop := natFracTextsUptoRow.holds Try.pinned (OpenSpec.upto natFracTextsSpec)

/-- 'guillochelaw01.NatFracField', WHERE WHAT IT READS IS OF BULK AT MOST 1048576: true; the input reads as it did. -/
def natFracFieldUptoRow : OpenClaim := { program := "ytppbhjhbaknidaa", sum := "0ddaea8d07f39b477df890eab136c5d09396f517537841a57216883785462b85", func := "guilloche/guillochelaw01.NatFracField", spec := "natFracField", inPlace := ["internal/abi.NoEscape", "internal/bytealg.IndexByteString", "internal/bytealg.IndexString"], recurses := true, named := ["internal/bytealg.MaxLen"], apart := false, narrowed := true }
def NatFracFieldUptoSaid : Prop := natFracFieldUptoRow.holds Try.pinned (OpenSpec.upto natFracFieldSpec)

end Rows
end Go.Proofs.Ytppbhjhbaknidaa
