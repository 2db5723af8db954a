/-
  The head of the translated program read word by word: its third word is the cut's, so the program may be entered, no list of its head is final, and its make is the cut. No condition. (A helper for the rows of this seat: the closed facts that read the head are proved here once, cheaply.) Slices of numbers as lists: what a slice value reads as, and that it reads so in every later world. No condition. (The base of all contracts of this seat.) The contract of the program's norm. No condition. Numbers as lists of digits to a base, the lowest digit first: plain Lean, no program. No condition. A block of numbers that a call has made: what it holds, read, written, and handed on as a slice. No condition. Slices of words to the base 2^32 as natural numbers; powers of two as bounds. No condition. The contract of the program's add: the sum. Condition: numbers of at most 2^33 bits. The contract of the program's sub: the difference. Conditions: the second number is at most the first; numbers of at most 2^33 bits. The contract of the program's cmp: -1, 0 or 1 as the numbers are. Condition: numbers of at most 2^33 bits. The contract of the program's mulPlain: the product. Condition: numbers of at most 2^33 bits. The contract of the program's up: the number times a power of the base. Condition: sizes of at most 2^33 bits. The contract of the program's mul (Karatsuba's way): the product. Condition: numbers of at most 2^32 bits.
-/
import Derived.Test.YtppbhjhbaknidaaChecked
import GoSem.ClaimJoined
import Derived.KernelRfl
import Derived.JoinedOf
import Derived.WalkKit
import Derived.WalkSpells
import Derived.BigQuiet
import Derived.Lib.Hide
import Derived.Deep.QuietTactic
import Derived.Laws.CopyOwn
set_option linter.unusedVariables false
set_option linter.unusedSimpArgs false

/-
  The head of the translated program read word by word: its third word is the cut's, so the program may be entered, no list of its head is final, and its make is the cut. No condition. (A helper for the rows of this seat: the closed facts that read the head are proved here once, cheaply.)
-/
namespace Go.Proofs.Ytppbhjhbaknidaa
namespace Head

def nm (l : List Nat) : List Char := l.map Char.ofNat

theorem words_snoc (w : List Char) (h : ∀ c ∈ w, c ≠ Char.ofNat 32) (r : List Char) : wordsSigns (w ++ Char.ofNat 32 :: r) = w :: wordsSigns r := by
  induction w with
  | nil => rfl
  | cons a w ih =>
    have hw := ih (fun c hc => h c (List.mem_cons_of_mem _ hc))
    have ha : a ≠ Char.ofNat 32 := h a (List.mem_cons_self ..)
    rw [List.cons_append]
    rw [wordsSigns, hw]
    exact fun e => ha e

def w1 : List Nat := [104, 97, 114, 110, 101, 115, 115]
def w2 : List Nat := [52, 49, 54, 99, 55, 52, 56, 101, 53, 97, 50, 53, 54, 53, 99, 97, 52, 55, 55, 99, 57, 101, 57, 98, 51, 101, 49, 52, 98, 100, 48, 57, 49, 49, 49, 54, 56, 51, 53, 56, 98, 101, 99, 53, 53, 97, 51, 50, 101, 50, 53, 48, 102, 49, 54, 97, 49, 102, 51, 100, 48, 48, 97, 54]
def w3 : List Nat := [99, 117, 116]
def w4 : List Nat := [97, 116, 32, 103, 117, 105, 108, 108, 111, 99, 104, 101, 47, 103, 117, 105, 108, 108, 111, 99, 104, 101, 108, 97, 119, 48, 49, 46, 78, 97, 116, 80, 97, 114, 115, 101, 115, 32, 103, 117, 105, 108, 108, 111, 99, 104, 101, 47, 103, 117, 105, 108, 108, 111, 99, 104, 101, 108, 97, 119, 48, 49, 46, 78, 97, 116, 80, 114, 111, 100, 117, 99, 116, 115, 32, 103, 117, 105, 108, 108, 111, 99, 104, 101, 47, 103, 117, 105, 108, 108, 111, 99, 104, 101, 108, 97, 119, 48, 49, 46, 78, 97, 116, 71, 99, 100, 115, 32, 103, 117, 105, 108, 108, 111, 99, 104, 101, 47, 103, 117, 105, 108, 108, 111, 99, 104, 101, 108, 97, 119, 48, 49, 46, 78, 97, 116, 82, 105, 110, 103, 32, 103, 117, 105, 108, 108, 111, 99, 104, 101, 47, 103, 117, 105, 108, 108, 111, 99, 104, 101, 108, 97, 119, 48, 49, 46, 78, 97, 116, 70, 114, 97, 99, 115, 32, 103, 117, 105, 108, 108, 111, 99, 104, 101, 47, 103, 117, 105, 108, 108, 111, 99, 104, 101, 108, 97, 119, 48, 49, 46, 78, 97, 116, 83, 117, 109, 115, 32, 103, 117, 105, 108, 108, 111, 99, 104, 101, 47, 103, 117, 105, 108, 108, 111, 99, 104, 101, 108, 97, 119, 48, 49, 46, 78, 97, 116, 68, 105, 118, 105, 100, 101, 115, 32, 103, 117, 105, 108, 108, 111, 99, 104, 101, 47, 103, 117, 105, 108, 108, 111, 99, 104, 101, 108, 97, 119, 48, 49, 46, 78, 97, 116, 66, 97, 99, 107, 32, 103, 117, 105, 108, 108, 111, 99, 104, 101, 47, 103, 117, 105, 108, 108, 111, 99, 104, 101, 108, 97, 119, 48, 49, 46, 78, 97, 116, 76, 99, 109, 32, 103, 117, 105, 108, 108, 111, 99, 104, 101, 47, 103, 117, 105, 108, 108, 111, 99, 104, 101, 108, 97, 119, 48, 49, 46, 78, 97, 116, 70, 114, 97, 99, 79, 114, 100, 101, 114, 32, 103, 117, 105, 108, 108, 111, 99, 104, 101, 47, 103, 117, 105, 108, 108, 111, 99, 104, 101, 108, 97, 119, 48, 49, 46, 78, 97, 116, 78, 101, 119, 32, 103, 117, 105, 108, 108, 111, 99, 104, 101, 47, 103, 117, 105, 108, 108, 111, 99, 104, 101, 108, 97, 119, 48, 49, 46, 78, 97, 116, 66, 105, 110, 111, 109, 105, 97, 108, 115, 32, 103, 117, 105, 108, 108, 111, 99, 104, 101, 47, 103, 117, 105, 108, 108, 111, 99, 104, 101, 108, 97, 119, 48, 49, 46, 78, 97, 116, 82, 111, 111, 116, 115, 32, 103, 117, 105, 108, 108, 111, 99, 104, 101, 47, 103, 117, 105, 108, 108, 111, 99, 104, 101, 108, 97, 119, 48, 49, 46, 78, 97, 116, 80, 97, 115, 99, 97, 108, 32, 103, 117, 105, 108, 108, 111, 99, 104, 101, 47, 103, 117, 105, 108, 108, 111, 99, 104, 101, 108, 97, 119, 48, 49, 46, 78, 97, 116, 83, 104, 105, 102, 116, 115, 32, 103, 117, 105, 108, 108, 111, 99, 104, 101, 47, 103, 117, 105, 108, 108, 111, 99, 104, 101, 108, 97, 119, 48, 49, 46, 78, 97, 116, 82, 101, 97, 100, 115, 32, 103, 117, 105, 108, 108, 111, 99, 104, 101, 47, 103, 117, 105, 108, 108, 111, 99, 104, 101, 108, 97, 119, 48, 49, 46, 78, 97, 116, 80, 111, 119, 77, 111, 100, 115, 32, 103, 117, 105, 108, 108, 111, 99, 104, 101, 47, 103, 117, 105, 108, 108, 111, 99, 104, 101, 108, 97, 119, 48, 49, 46, 78, 97, 116, 80, 111, 119, 101, 114, 115, 32, 103, 117, 105, 108, 108, 111, 99, 104, 101, 47, 103, 117, 105, 108, 108, 111, 99, 104, 101, 108, 97, 119, 48, 49, 46, 78, 97, 116, 70, 114, 97, 99, 69, 100, 103, 101, 32, 103, 117, 105, 108, 108, 111, 99, 104, 101, 47, 103, 117, 105, 108, 108, 111, 99, 104, 101, 108, 97, 119, 48, 49, 46, 78, 97, 116, 73, 110, 118, 101, 114, 115, 101, 115, 32, 103, 117, 105, 108, 108, 111, 99, 104, 101, 47, 103, 117, 105, 108, 108, 111, 99, 104, 101, 108, 97, 119, 48, 49, 46, 78, 97, 116, 69, 100, 103, 101, 32, 103, 117, 105, 108, 108, 111, 99, 104, 101, 47, 103, 117, 105, 108, 108, 111, 99, 104, 101, 108, 97, 119, 48, 49, 46, 78, 97, 116, 70, 114, 97, 99, 83, 117, 109, 115, 32, 103, 117, 105, 108, 108, 111, 99, 104, 101, 47, 103, 117, 105, 108, 108, 111, 99, 104, 101, 108, 97, 119, 48, 49, 46, 78, 97, 116, 69, 120, 112, 111, 110, 101, 110, 116, 115, 32, 103, 117, 105, 108, 108, 111, 99, 104, 101, 47, 103, 117, 105, 108, 108, 111, 99, 104, 101, 108, 97, 119, 48, 49, 46, 78, 97, 116, 66, 101, 115, 116, 115, 32, 103, 117, 105, 108, 108, 111, 99, 104, 101, 47, 103, 117, 105, 108, 108, 111, 99, 104, 101, 108, 97, 119, 48, 49, 46, 78, 97, 116, 78, 101, 97, 114, 101, 115, 116, 32, 103, 117, 105, 108, 108, 111, 99, 104, 101, 47, 103, 117, 105, 108, 108, 111, 99, 104, 101, 108, 97, 119, 48, 49, 46, 78, 97, 116, 75, 101, 101, 112, 115, 32, 103, 117, 105, 108, 108, 111, 99, 104, 101, 47, 103, 117, 105, 108, 108, 111, 99, 104, 101, 108, 97, 119, 48, 49, 46, 78, 97, 116, 70, 114, 97, 99, 84, 101, 120, 116, 115, 32, 103, 117, 105, 108, 108, 111, 99, 104, 101, 47, 103, 117, 105, 108, 108, 111, 99, 104, 101, 108, 97, 119, 48, 49, 46, 78, 97, 116, 70, 114, 97, 99, 70, 105, 101, 108, 100]

theorem io : Try.prog.initOrder = String.ofList (nm w1 ++ Char.ofNat 32 :: (nm w2 ++ Char.ofNat 32 :: (nm w3 ++ Char.ofNat 32 :: nm w4))) := by kernel_rfl

theorem spelt (s : String) (l : List Nat) (h : s = String.ofList (nm l)) : s.toList = nm l := by
  rw [h, String.toList_ofList]
theorem cutIs : "cut".toList = nm w3 := spelt _ _ (by kernel_rfl)
theorem harnessIs : "harness".toList = nm w1 := spelt _ _ (by kernel_rfl)
theorem parts (a b : List Nat) (s : String) (hs : s = String.ofList (nm b)) (h : (nm a == nm b) = false) : (nm a == s.toList) = false := by
  rw [spelt s b hs]; exact h

theorem words : ∃ rest, behindMainWord (wordsSigns Try.prog.initOrder.toList) = nm w3 :: rest := by
  refine ⟨wordsSigns (nm w4), ?_⟩
  have e : ((nm w1 == "harness".toList || nm w1 == "ownmain".toList) && isSumSigns (nm w2)) = true := by
    have : isSumSigns (nm w2) = true := by decide +kernel
    rw [this, harnessIs, beq_self_eq_true, Bool.true_or, Bool.true_and]
  rw [io, String.toList_ofList, words_snoc _ (by decide +kernel), words_snoc _ (by decide +kernel), words_snoc _ (by decide +kernel)]
  simp only [behindMainWord]
  rw [if_pos e]

theorem no0 : (nm w3 == "finals".toList) = false := parts _ [102, 105, 110, 97, 108, 115] _ (by kernel_rfl) (by decide +kernel)
theorem no1 : (nm w3 == "reflectrows".toList) = false := parts _ [114, 101, 102, 108, 101, 99, 116, 114, 111, 119, 115] _ (by kernel_rfl) (by decide +kernel)
theorem no2 : (nm w3 == "leanrows".toList) = false := parts _ [108, 101, 97, 110, 114, 111, 119, 115] _ (by kernel_rfl) (by decide +kernel)
theorem no3 : (nm w3 == "onebuild".toList) = false := parts _ [111, 110, 101, 98, 117, 105, 108, 100] _ (by kernel_rfl) (by decide +kernel)
theorem no4 : (nm w3 == "publicsums".toList) = false := parts _ [112, 117, 98, 108, 105, 99, 115, 117, 109, 115] _ (by kernel_rfl) (by decide +kernel)
theorem no5 : (nm w3 == "eqguard".toList) = false := parts _ [101, 113, 103, 117, 97, 114, 100] _ (by kernel_rfl) (by decide +kernel)
theorem no6 : (nm w3 == "ownunsafe".toList) = false := parts _ [111, 119, 110, 117, 110, 115, 97, 102, 101] _ (by kernel_rfl) (by decide +kernel)
theorem no7 : (nm w3 == "libbeside".toList) = false := parts _ [108, 105, 98, 98, 101, 115, 105, 100, 101] _ (by kernel_rfl) (by decide +kernel)
theorem no8 : (nm w3 == "ownbeside".toList) = false := parts _ [111, 119, 110, 98, 101, 115, 105, 100, 101] _ (by kernel_rfl) (by decide +kernel)
theorem no9 : (nm w3 == "reflbeside".toList) = false := parts _ [114, 101, 102, 108, 98, 101, 115, 105, 100, 101] _ (by kernel_rfl) (by decide +kernel)
theorem no10 : (nm w3 == "aliases".toList) = false := parts _ [97, 108, 105, 97, 115, 101, 115] _ (by kernel_rfl) (by decide +kernel)
theorem no11 : (nm w3 == "afterinit".toList) = false := parts _ [97, 102, 116, 101, 114, 105, 110, 105, 116] _ (by kernel_rfl) (by decide +kernel)
theorem no12 : (nm w3 == "crcplain".toList) = false := parts _ [99, 114, 99, 112, 108, 97, 105, 110] _ (by kernel_rfl) (by decide +kernel)
theorem no13 : (nm w3 == "roadunsafe".toList) = false := parts _ [114, 111, 97, 100, 117, 110, 115, 97, 102, 101] _ (by kernel_rfl) (by decide +kernel)
theorem no14 : (nm w3 == "fmthandon".toList) = false := parts _ [102, 109, 116, 104, 97, 110, 100, 111, 110] _ (by kernel_rfl) (by decide +kernel)
theorem no15 : (nm w3 == "gc".toList) = false := parts _ [103, 99] _ (by kernel_rfl) (by decide +kernel)
theorem no16 : (nm w3 == "spec".toList) = false := parts _ [115, 112, 101, 99] _ (by kernel_rfl) (by decide +kernel)
theorem no17 : (nm w3 == "carried".toList) = false := parts _ [99, 97, 114, 114, 105, 101, 100] _ (by kernel_rfl) (by decide +kernel)

theorem strip (rest : List (List Char)) : stripLifts liftWords (nm w3 :: rest) = ([], nm w3 :: rest) := by
  simp only [stripLifts, liftWords, no0, no1, no2, no3, no4, no5, no6, no7, no8, no9, no10, no11, no12, no13, no14, Bool.false_eq_true, if_false]

theorem laysLater : Try.prog.laysLater = false := by kernel_rfl
theorem bearsReflect : Try.prog.bearsReflect = false := by kernel_rfl
theorem doorFits : Try.prog.doorFits [] = true := by kernel_rfl

theorem strip_of (c : List Char) (rest : List (List Char)) (h : ∀ o ∈ liftWords, (c == o.toList) = false) : stripLifts liftWords (c :: rest) = ([], c :: rest) := by
  generalize liftWords = l at h
  induction l with
  | nil => rfl
  | cons o l ih =>
    rw [stripLifts, h o (List.mem_cons_self ..), ih (fun x hx => h x (List.mem_cons_of_mem _ hx))]
    rfl

theorem mayEnter_of {P : Program} {c : List Char} {rest : List (List Char)} (h : behindMainWord (wordsSigns P.initOrder.toList) = c :: rest)
    (hs : stripLifts liftWords (c :: rest) = ([], c :: rest)) (h3 : (some c == some "cut".toList) = true)
    (e1 : P.laysLater = false) (e2 : P.bearsReflect = false) (e3 : P.doorFits [] = true) : P.mayEnter = true := by
  unfold Program.mayEnter
  rw [h]
  generalize "cut".toList = C at h3 ⊢
  generalize "gc".toList = G
  generalize "spec".toList = S
  generalize "stop".toList = T
  generalize "carried".toList = D
  simp [hs, h3, e1, e2, e3] at *

theorem lifts_of {P : Program} {c : List Char} {rest : List (List Char)} (h : behindMainWord (wordsSigns P.initOrder.toList) = c :: rest)
    (hs : stripLifts liftWords (c :: rest) = ([], c :: rest)) : P.headLifts = [] := by
  unfold Program.headLifts
  rw [h, hs]
  generalize "cut".toList = C
  simp

theorem liftsFinal_of {P : Program} {c : List Char} {rest : List (List Char)} (h : behindMainWord (wordsSigns P.initOrder.toList) = c :: rest)
    (hl : P.headLifts = []) (h3 : (c == "carried".toList) = false) : P.liftsFinal = false := by
  unfold Program.liftsFinal
  rw [h, hl]
  generalize "carried".toList = D at h3 ⊢
  generalize "gc".toList = G
  generalize "cut".toList = C
  simp at h3
  simp [h3]

theorem make_of {P : Program} {c : List Char} {rest : List (List Char)} (h : behindMainWord (wordsSigns P.initOrder.toList) = c :: rest)
    (h1 : (c == "gc".toList) = false) (h2 : (c == "spec".toList) = false) (h3 : (c == "cut".toList) = true) : P.make = some .cut := by
  unfold Program.make
  rw [h]
  generalize "cut".toList = C at h3 ⊢
  generalize "gc".toList = G at h1 ⊢
  generalize "spec".toList = S at h2 ⊢
  generalize "carried".toList = D
  generalize "finals".toList = F
  simp only [h1, h2, h3, Bool.or_self, Bool.true_or, if_true, Bool.false_eq_true, if_false]

theorem isCut : (nm w3 == "cut".toList) = true := by rw [cutIs]; exact beq_self_eq_true _

theorem mayEnter : Try.prog.mayEnter = true := by
  obtain ⟨rest, h⟩ := words
  exact mayEnter_of h (strip rest) (by rw [← isCut]; rfl) laysLater bearsReflect doorFits

theorem lifts : Try.prog.headLifts = [] := by
  obtain ⟨rest, h⟩ := words
  exact lifts_of h (strip rest)

theorem liftsFinal : Try.prog.liftsFinal = false := by
  obtain ⟨rest, h⟩ := words
  exact liftsFinal_of h lifts no17

theorem make : Try.prog.make = some .cut := by
  obtain ⟨rest, h⟩ := words
  exact make_of h no15 no16 isCut

def factsBut (P : Program) (f : FuncId) (fn : Func) (s : ChangeSpec) (c : OpenClaim) : Bool :=
      (c.wf (OpenSpec.ofChange s) && laidOutB P && mapsRowed P &&
      fn.params.all (P.readableRec ·) && namedTie P c.named s.vars &&
      (c.stops == []) && (P.stops == []) && (c.knobs == []) && (P.stopKnobs == []) &&
      (c.inPlace == P.inPlace f) && (c.unfollowed == P.unfollowed f) && (c.recurses == P.recurses f) && (c.named == P.varsNamed f) &&
      (c.maps == (fn.params.toList ++ s.plain.varTypes P).any (P.mapsRec ·)) && (c.ifaces == (fn.params.toList ++ s.plain.varTypes P).any (P.ifacesRec ·)) && (c.mapsOut == P.mapsAmong fn.resultTypes.toList) &&
      (c.loops == (fn.params.toList ++ s.plain.varTypes P).any (P.loopsFrom ·)) && (c.wideKeys == (fn.params.toList ++ s.plain.varTypes P ++ fn.resultTypes.toList).any (P.wideKeysFrom ·)) &&
      s.vars.all (P.varReadable ·) && fn.resultTypes.all (fun t => P.readableRec t && decide (t < P.types.size)) && (c.ifacesOut == fn.resultTypes.toList.any (P.ifacesRec ·)) && (c.loopsOut == fn.resultTypes.toList.any (P.loopsFrom ·)) && (c.plainKeys == P.plainKeys) && c.shortTexts.isNone && P.stopsHeard && (c.kinds == (if c.domain.isEmpty then [] else fn.params.toList.map fun t => match P.underlying t with | some (.int k) => some k | _ => none)) && (c.pinned == c.pinnedBy) &&
      (c.veiled == (fn.params.toList ++ s.plain.varTypes P ++ fn.resultTypes.toList).any (P.veiledRec ·)) && c.veiledFits P fn.params.toList (fn.params.toList ++ s.plain.varTypes P ++ fn.resultTypes.toList))

/-- The closed facts of a row, the three that read the head taken from above. -/
theorem facts_of {P : Program} (hme : P.mayEnter = true) (hlf : P.liftsFinal = false) (hmk : P.make = some .cut) {f : FuncId} {fn : Func} {s : ChangeSpec} {c : OpenClaim} (hm : c.make = .cut) (hl : c.lifted = false)
    (h : factsBut P f fn s c = true) :
    joinedFacts P f fn s c = true := by
  unfold factsBut at h
  unfold joinedFacts
  rw [hme, hlf, hmk, hm, hl, show (some Make.cut == some Make.cut) = true from by decide, show (false == false) = true from rfl, Bool.and_true, Bool.and_true, Bool.and_true]
  exact h

theorem facts {f : FuncId} {fn : Func} {s : ChangeSpec} {c : OpenClaim} (hm : c.make = .cut) (hl : c.lifted = false) (h : factsBut Try.prog f fn s c = true) : joinedFacts Try.prog f fn s c = true :=
  facts_of mayEnter liftsFinal make hm hl h

#print axioms facts
#print axioms make
#print axioms mayEnter
#print axioms liftsFinal
end Head
end Go.Proofs.Ytppbhjhbaknidaa

/-
  Slices of numbers as lists: what a slice value reads as, and that it reads so in every later world. No condition. (The base of all contracts of this seat.)
-/
namespace Go.Proofs.Ytppbhjhbaknidaa
open Go.RowKit

/-- The i-th number of a list, 0 behind its end (a name that the walk does not open). -/
def nth (xs : List Nat) (i : Nat) : Nat := xs.getD i 0

theorem nth_lt {xs : List Nat} {i : Nat} (h : i < xs.length) : nth xs i = xs[i] := by simp [nth, h]
theorem nth_ge {xs : List Nat} {i : Nat} (h : xs.length ≤ i) : nth xs i = 0 := by simp [nth, h]
theorem nth_nil (i : Nat) : nth [] i = 0 := rfl
theorem nth_zero (x : Nat) (xs : List Nat) : nth (x :: xs) 0 = x := rfl
theorem nth_succ (x : Nat) (xs : List Nat) (i : Nat) : nth (x :: xs) (i + 1) = nth xs i := rfl
theorem nth_take {xs : List Nat} {m i : Nat} (h : i < m) : nth (xs.take m) i = nth xs i := by
  simp only [nth, List.getD_eq_getElem?_getD, List.getElem?_take, if_pos h]
theorem nth_drop (xs : List Nat) (m i : Nat) : nth (xs.drop m) i = nth xs (m + i) := by
  simp [nth, List.getD_eq_getElem?_getD, List.getElem?_drop]
theorem nth_append_left {xs ys : List Nat} {i : Nat} (h : i < xs.length) : nth (xs ++ ys) i = nth xs i := by
  simp [nth, List.getD_eq_getElem?_getD, List.getElem?_append_left h]
theorem nth_append_right {xs ys : List Nat} {i : Nat} (h : xs.length ≤ i) : nth (xs ++ ys) i = nth ys (i - xs.length) := by
  simp [nth, List.getD_eq_getElem?_getD, List.getElem?_append_right h]

/-- The list without zeros at its end. -/
def trim : List Nat → List Nat
  | [] => []
  | x :: xs => match trim xs with
    | [] => if x = 0 then [] else [x]
    | y :: ys => x :: y :: ys

theorem trim_zero (xs : List Nat) (h : ∀ i, nth xs i = 0) : trim xs = [] := by
  induction xs with
  | nil => rfl
  | cons x xs ih =>
    have h0 : x = 0 := h 0
    have := ih (fun i => h (i + 1))
    simp [trim, this, h0]

theorem trim_take (xs : List Nat) : ∀ m, m ≤ xs.length → (∀ i, m ≤ i → nth xs i = 0) → (m = 0 ∨ nth xs (m - 1) ≠ 0) → trim xs = xs.take m := by
  induction xs with
  | nil => intro m _ _ _; simp [trim]
  | cons x xs ih =>
    intro m hm hz hl
    cases m with
    | zero => simpa using trim_zero _ (fun i => hz i (Nat.zero_le _))
    | succ m =>
      have hz' : ∀ i, m ≤ i → nth xs i = 0 := fun i hi => by simpa [nth_succ] using hz (i + 1) (by omega)
      simp only [List.length_cons, Nat.add_le_add_iff_right] at hm
      cases m with
      | zero =>
        have : trim xs = [] := trim_zero _ (fun i => hz' i (Nat.zero_le _))
        have hx : x ≠ 0 := by simpa [nth_zero] using hl
        simp [trim, this, hx]
      | succ m =>
        have hl' : nth xs m ≠ 0 := by
          rcases hl with h | h
          · omega
          · simpa [nth_succ] using h
        have := ih (m + 1) hm hz' (.inr (by simpa using hl'))
        rw [trim, this]
        cases hx : xs.take (m + 1) with
        | nil => 
          have := congrArg List.length hx
          rw [List.length_take, List.length_nil] at this
          omega
        | cons y ys => simp [hx]

/-- What a slice value of numbers reads as: it is nil and empty, or its cells lie from 'off' on in block b. -/
structure SlAt (w : World) (K : IntKind) (ao : Option Addr) (n cap b off : Nat) (xs : List Nat) : Prop where
  len : xs.length = n
  le : n ≤ cap
  max : n ≤ 1099511627776 ∧ cap ≤ 9223372036854775807
  addr : ao = some ⟨b, off, none⟩ ∨ (ao = none ∧ n = 0 ∧ cap = 0)
  cells : ∀ i, i < n → w.cell? ⟨b, off + i, none⟩ = some (.int K (nth xs i))
  wf : ∀ x ∈ xs, (Lit.int K x).wf = true

def Sl (w : World) (K : IntKind) (v : Value) (xs : List Nat) : Prop :=
  ∃ ao n cap b off, v = .slice ao n cap ∧ SlAt w K ao n cap b off xs

theorem SlAt.sl {w : World} {K : IntKind} {ao : Option Addr} {n cap b off : Nat} {xs : List Nat} (h : SlAt w K ao n cap b off xs) : Sl w K (.slice ao n cap) xs :=
  ⟨ao, n, cap, b, off, rfl, h⟩

theorem SlAt.lt {w : World} {K : IntKind} {ao : Option Addr} {n cap b off : Nat} {xs : List Nat} (h : SlAt w K ao n cap b off xs) (hn : 0 < n) : b < w.heap.size :=
  World.block_lt_of_cell? w _ (h.cells 0 hn)

theorem SlAt.below {w w' : World} {K : IntKind} {ao : Option Addr} {n cap b off : Nat} {xs : List Nat} (h : SlAt w K ao n cap b off xs) (hb : Below w.heap.size w w') : SlAt w' K ao n cap b off xs :=
  { h with cells := fun i hi => by rw [hb.cell (p := ⟨b, off + i, none⟩) (h.lt (by omega))]; exact h.cells i hi }

theorem Sl.below {w w' : World} {K : IntKind} {v : Value} {xs : List Nat} (h : Sl w K v xs) (hb : Below w.heap.size w w') : Sl w' K v xs := by
  obtain ⟨ao, n, cap, b, off, rfl, h⟩ := h
  exact (h.below hb).sl

theorem Sl.nil (w : World) (K : IntKind) : Sl w K (.slice none 0 0) [] :=
  ⟨none, 0, 0, 0, 0, rfl, rfl, Nat.le_refl _, by omega, .inr ⟨rfl, rfl, rfl⟩, fun i hi => by omega, fun _ h => by cases h⟩

theorem wf_take {K : IntKind} {xs : List Nat} (h : ∀ x ∈ xs, (Lit.int K x).wf = true) (m : Nat) : ∀ x ∈ xs.take m, (Lit.int K x).wf = true :=
  fun x hx => h x (List.mem_of_mem_take hx)

end Go.Proofs.Ytppbhjhbaknidaa

/-
  The contract of the program's norm. No condition.
-/
namespace Go.Proofs.Ytppbhjhbaknidaa
open Go.RowKit

def RetSl (K : IntKind) (w : World) (xs : List Nat) (e : Ending) (w' : World) : Prop := ∃ v, e = .returned v ∧ Sl w' K v xs ∧ Below w.heap.size w w'

theorem Sl.cut {w : World} {K : IntKind} {ao : Option Addr} {n cap b off : Nat} {xs : List Nat} (h : SlAt w K ao n cap b off xs) {m : Nat} (hm : m ≤ n) : Sl w K (.slice ao m m) (xs.take m) :=
  ⟨ao, m, m, b, off, rfl, by rw [List.length_take, h.len]; omega, Nat.le_refl _, by have := h.le; have := h.max; omega,
    by rcases h.addr with h | ⟨h, h1, h2⟩
       · exact .inl h
       · exact .inr ⟨h, by omega, by omega⟩,
    fun i hi => by rw [nth_take hi]; exact h.cells i (by omega), wf_take h.wf m⟩

theorem SlAt.cut {w : World} {K : IntKind} {ao : Option Addr} {n cap b off : Nat} {xs : List Nat} (h : SlAt w K ao n cap b off xs) {m : Nat} (hm : m ≤ n) : SlAt w K ao m m b off (xs.take m) :=
  ⟨by rw [List.length_take, h.len]; omega, Nat.le_refl _, by have := h.le; have := h.max; omega,
    by rcases h.addr with h | ⟨h, h1, h2⟩
       · exact .inl h
       · exact .inr ⟨h, by omega, by omega⟩,
    fun i hi => by rw [nth_take hi]; exact h.cells i (by omega), wf_take h.wf m⟩

theorem trim_spec (xs : List Nat) : (trim xs).length ≤ xs.length ∧ trim xs = xs.take (trim xs).length := by
  induction xs with
  | nil => simp [trim]
  | cons x xs ih =>
    rw [trim]
    cases h : trim xs with
    | nil => by_cases hx : x = 0 <;> simp [hx]
    | cons y ys =>
      rw [h] at ih
      simp only [List.length_cons, List.take_succ_cons] at ih ⊢
      exact ⟨by omega, by rw [← ih.2]⟩

set_option maxHeartbeats 400000 in
theorem norm_val {ao : Option Addr} {n cap b off : Nat} {xs : List Nat} {w : World} (hs : SlAt w .u32 ao n cap b off xs) :
    Calls Try.prog 126 #[.slice ao n cap] w (fun e w' => e = .returned (.slice ao (trim xs).length (trim xs).length) ∧ w' = w) := by
  have hle := hs.le
  have hmax := hs.max
  have hfin : ∀ m, m ≤ n → (∀ i, m ≤ i → nth xs i = 0) → (m = 0 ∨ nth xs (m - 1) ≠ 0) → (trim xs).length = m := by
    intro m hm hz hl
    rw [trim_take xs m (by rw [hs.len]; exact hm) hz hl, List.length_take, hs.len]; omega
  have HF := Lib.hid hfin
  clear hfin
  obtain ⟨t, ht⟩ : ∃ t, t = (trim xs).length := ⟨_, rfl⟩
  rw [← ht] at HF ⊢
  clear ht
  go_enter Try.func126, Try.ntmps126
  go_wp2
  go_loop [3] (fun t => ∃ m : Nat, m ≤ n ∧ t = .int .i64 m ∧ ∀ i, m ≤ i → nth xs i = 0) (fun t => (intOf t).toNat)
  case atStart => exact ⟨n, Nat.le_refl _, rfl, fun i hi => nth_ge (by rw [hs.len]; exact hi)⟩
  case round =>
    obtain ⟨m, hm, rfl, hz⟩ := hrel
    have HZ := Lib.hid hz
    clear hz
    by_cases h0 : m = 0
    · have hd : decide (0 < (m : Int)) = false := decide_eq_false (by omega)
      have hr := HF.out m hm HZ.out (.inl h0)
      have HR := Lib.hid hr
      clear hr
      go_wp2
      go_ret
      exact ⟨by rw [HR.out, h0]; rfl, rfl⟩
    · obtain rfl := hs.addr.resolve_right (by omega)
      have hc := hs.cells (m - 1) (by omega)
      by_cases hz : nth xs (m - 1) = 0
      · have hzz : ((nth xs (m - 1) : Int) == 0) = true := by simp [hz]
        have HY := Lib.hid hz
        clear hz
        go_wp2
        go_round
        case rel => exact ⟨m - 1, by omega, by go_num, fun i hi => by
          by_cases h : i = m - 1
          · rw [h]; exact HY.out
          · exact HZ.out i (by omega)⟩
        case measure => simp [intOf]; omega
      · have hzz : ((nth xs (m - 1) : Int) == 0) = false := by simp [hz]
        have hr := HF.out m hm HZ.out (.inr hz)
        have HR := Lib.hid hr
        clear hr
        go_wp2
        go_ret
        exact ⟨by rw [HR.out]; rfl, rfl⟩

theorem norm_any (v : Value) (xs : List Nat) (w : World) (h : Sl w .u32 v xs) : Calls Try.prog 126 #[v] w (RetSl .u32 w (trim xs)) := by
  obtain ⟨ao, n, cap, b, off, rfl, hs⟩ := h
  refine (norm_val hs).mono ?_
  rintro e w' ⟨rfl, rfl⟩
  refine ⟨_, rfl, ?_, Below.refl _ _⟩
  have ht := trim_spec xs
  rw [hs.len] at ht
  have := (hs.cut ht.1).sl
  rw [← ht.2] at this
  exact this

end Go.Proofs.Ytppbhjhbaknidaa

/-
  Numbers as lists of digits to a base, the lowest digit first: plain Lean, no program. No condition.
-/
namespace Go.Proofs.Ytppbhjhbaknidaa

/-- The number of a list of digits. -/
def val (b : Nat) : List Nat → Nat
  | [] => 0
  | d :: ds => d + b * val b ds

def Dg (b : Nat) (xs : List Nat) : Prop := ∀ x ∈ xs, x < b
def Can (b : Nat) (xs : List Nat) : Prop := Dg b xs ∧ trim xs = xs

theorem val_append (b : Nat) (xs ys : List Nat) : val b (xs ++ ys) = val b xs + b ^ xs.length * val b ys := by
  induction xs with
  | nil => simp [val]
  | cons x xs ih =>
    rw [List.cons_append, val, ih, val, List.length_cons, Nat.pow_succ, Nat.mul_add, Nat.mul_comm (b ^ xs.length) b, Nat.mul_assoc]
    omega

theorem val_snoc (b : Nat) (xs : List Nat) (d : Nat) : val b (xs ++ [d]) = val b xs + b ^ xs.length * d := by
  rw [val_append]; simp [val]

theorem val_zeros (b n : Nat) : val b (List.replicate n 0) = 0 := by
  induction n with
  | zero => rfl
  | succ n ih => rw [List.replicate_succ, val, ih]; omega

theorem val_take_ge (b : Nat) {xs : List Nat} {k : Nat} (h : xs.length ≤ k) : val b (xs.take k) = val b xs := by
  rw [List.take_of_length_le h]

theorem val_take_succ (b : Nat) (xs : List Nat) (k : Nat) : val b (xs.take (k + 1)) = val b (xs.take k) + b ^ k * nth xs k := by
  by_cases h : k < xs.length
  · rw [List.take_succ_eq_append_getElem h, val_snoc, List.length_take, nth_lt h, Nat.min_eq_left (by omega)]
  · rw [val_take_ge b (by omega), val_take_ge b (by omega), nth_ge (by omega)]; omega

theorem val_take_drop (b : Nat) (xs : List Nat) (k : Nat) (h : k ≤ xs.length) : val b xs = val b (xs.take k) + b ^ k * val b (xs.drop k) := by
  have := val_append b (xs.take k) (xs.drop k)
  rw [List.take_append_drop, List.length_take, Nat.min_eq_left h] at this
  exact this

theorem val_set (b : Nat) (xs : List Nat) : ∀ (i d : Nat), i < xs.length → val b (xs.set i d) + b ^ i * nth xs i = val b xs + b ^ i * d := by
  induction xs with
  | nil => intro i d h; simp at h
  | cons x xs ih =>
    intro i d h
    cases i with
    | zero => simp only [List.set_cons_zero, val, nth_zero, Nat.pow_zero]; omega
    | succ i =>
      have := ih i d (by simpa using h)
      simp only [List.set_cons_succ, val, nth_succ, Nat.pow_succ]
      have e : b * (val b (xs.set i d) + b ^ i * nth xs i) = b * (val b xs + b ^ i * d) := by rw [this]
      simp only [Nat.mul_add] at e
      have e1 : b ^ i * b * nth xs i = b * (b ^ i * nth xs i) := by rw [Nat.mul_comm (b ^ i) b, Nat.mul_assoc]
      have e2 : b ^ i * b * d = b * (b ^ i * d) := by rw [Nat.mul_comm (b ^ i) b, Nat.mul_assoc]
      omega

theorem val_trim (b : Nat) (xs : List Nat) : val b (trim xs) = val b xs := by
  induction xs with
  | nil => rfl
  | cons x xs ih =>
    rw [val, ← ih, trim]
    cases h : trim xs with
    | nil => by_cases hx : x = 0 <;> simp [hx, val]
    | cons y ys => simp [val]

theorem mem_trim {x : Nat} {xs : List Nat} (h : x ∈ trim xs) : x ∈ xs := by
  induction xs with
  | nil => simp [trim] at h
  | cons y xs ih =>
    rw [trim] at h
    cases ht : trim xs with
    | nil =>
      rw [ht] at h
      by_cases hy : y = 0
      · simp [hy] at h
      · simp [hy] at h; simp [h]
    | cons z zs =>
      rw [ht] at h ih
      simp only [List.mem_cons] at h ih ⊢
      rcases h with h | h
      · exact .inl h
      · exact .inr (ih h)

theorem trim_trim (xs : List Nat) : trim (trim xs) = trim xs := by
  induction xs with
  | nil => rfl
  | cons x xs ih =>
    rw [trim]
    cases h : trim xs with
    | nil => by_cases hx : x = 0 <;> simp [hx, trim]
    | cons y ys =>
      rw [h] at ih
      simp only [trim] at ih ⊢
      rw [ih]

theorem Dg.trim {b : Nat} {xs : List Nat} (h : Dg b xs) : Dg b (trim xs) := fun x hx => h x (mem_trim hx)
theorem Dg.can {b : Nat} {xs : List Nat} (h : Dg b xs) : Can b (Ytppbhjhbaknidaa.trim xs) := ⟨h.trim, trim_trim xs⟩
theorem Dg.nth {b : Nat} {xs : List Nat} (h : Dg b xs) (hb : 0 < b) (i : Nat) : nth xs i < b := by
  by_cases hi : i < xs.length
  · rw [nth_lt hi]; exact h _ (List.getElem_mem _)
  · rw [nth_ge (by omega)]; exact hb
theorem Dg.take {b : Nat} {xs : List Nat} (h : Dg b xs) (k : Nat) : Dg b (xs.take k) := fun x hx => h x (List.mem_of_mem_take hx)
theorem Dg.drop {b : Nat} {xs : List Nat} (h : Dg b xs) (k : Nat) : Dg b (xs.drop k) := fun x hx => h x (List.mem_of_mem_drop hx)
theorem Dg.set {b : Nat} {xs : List Nat} (h : Dg b xs) (i : Nat) {d : Nat} (hd : d < b) : Dg b (xs.set i d) := fun x hx => by
  rcases List.mem_or_eq_of_mem_set hx with h1 | h1
  · exact h x h1
  · rw [h1]; exact hd
theorem Dg.zeros {b : Nat} (hb : 0 < b) (n : Nat) : Dg b (List.replicate n 0) := fun x hx => by rw [(List.mem_replicate.1 hx).2]; exact hb

theorem val_lt {b : Nat} {xs : List Nat} (h : Dg b xs) : val b xs < b ^ xs.length := by
  induction xs with
  | nil => simp [val]
  | cons x xs ih =>
    have h1 := ih (fun y hy => h y (List.mem_cons_of_mem _ hy))
    have h2 := h x (List.mem_cons_self ..)
    rw [val, List.length_cons, Nat.pow_succ, Nat.mul_comm (b ^ xs.length) b]
    have h3 : b * (val b xs + 1) ≤ b * b ^ xs.length := Nat.mul_le_mul_left _ h1
    rw [Nat.mul_add] at h3
    omega

theorem trim_ne {x : Nat} {xs : List Nat} (h : trim (x :: xs) = x :: xs) : trim xs = xs := by
  rw [trim] at h
  cases ht : trim xs with
  | nil =>
    rw [ht] at h
    by_cases hx : x = 0
    · simp [hx] at h
    · simp [hx] at h; exact h.symm
  | cons y ys =>
    rw [ht] at h
    exact (List.cons.inj h).2

theorem Can.tail {b x : Nat} {xs : List Nat} (h : Can b (x :: xs)) : Can b xs := ⟨fun y hy => h.1 y (List.mem_cons_of_mem _ hy), trim_ne h.2⟩

theorem Can.nil (b : Nat) : Can b [] := ⟨fun _ hx => absurd hx List.not_mem_nil, rfl⟩

theorem Can.zero {b : Nat} {xs : List Nat} (h : Can b xs) (hb : 0 < b) (hv : val b xs = 0) : xs = [] := by
  induction xs with
  | nil => rfl
  | cons x xs ih =>
    rw [val] at hv
    have h0 : x = 0 := by omega
    have h1 : val b xs = 0 := by
      have : b * val b xs = 0 := by omega
      rcases Nat.mul_eq_zero.1 this with h | h
      · omega
      · exact h
    have := ih h.tail h1
    subst this; subst h0
    have := h.2
    simp [trim] at this

theorem Can.inj {b : Nat} (hb : 0 < b) {xs : List Nat} : ∀ {ys : List Nat}, Can b xs → Can b ys → val b xs = val b ys → xs = ys := by
  induction xs with
  | nil => intro ys _ h2 h; exact (h2.zero hb (by rw [← h]; rfl)).symm
  | cons x xs ih =>
    intro ys h1 h2 h
    cases ys with
    | nil => exact h1.zero hb (by rw [h]; rfl)
    | cons y ys =>
      have hx := h1.1 x (List.mem_cons_self ..)
      have hy := h2.1 y (List.mem_cons_self ..)
      rw [val, val] at h
      have e1 : x = y := by
        have := congrArg (· % b) h
        simpa [Nat.add_mul_mod_self_left, Nat.mod_eq_of_lt hx, Nat.mod_eq_of_lt hy] using this
      subst e1
      have e2 : val b xs = val b ys := Nat.eq_of_mul_eq_mul_left hb (by omega)
      rw [ih h1.tail h2.tail e2]

theorem Can.ge {b : Nat} {xs : List Nat} (h : Can b xs) (hn : xs ≠ []) : b ^ (xs.length - 1) ≤ val b xs := by
  induction xs with
  | nil => exact absurd rfl hn
  | cons x xs ih =>
    cases xs with
    | nil =>
      have : x ≠ 0 := fun h0 => by have := h.2; simp [trim, h0] at this
      simp [val]; omega
    | cons y ys =>
      have := ih h.tail (by simp)
      simp only [List.length_cons, Nat.add_sub_cancel] at this ⊢
      rw [val, Nat.pow_succ, Nat.mul_comm]
      have := Nat.mul_le_mul_left b this
      omega

theorem Can.len_le {b : Nat} (hb : 1 < b) {xs : List Nat} (h : Can b xs) {k : Nat} (hk : val b xs < b ^ k) : xs.length ≤ k := by
  by_cases hn : xs = []
  · simp [hn]
  · have h1 := h.ge hn
    have h2 : b ^ (xs.length - 1) < b ^ k := by omega
    have := (Nat.pow_lt_pow_iff_right hb).1 h2
    omega

/-- The digits of a number. -/
def digsF (b : Nat) : Nat → Nat → List Nat
  | 0, _ => []
  | f + 1, n => if n = 0 then [] else n % b :: digsF b f (n / b)
def digs (b n : Nat) : List Nat := digsF b (n + 1) n

theorem digsF_ok (b : Nat) (hb : 1 < b) : ∀ f n, n < f → Can b (digsF b f n) ∧ val b (digsF b f n) = n := by
  intro f
  induction f with
  | zero => intro n h; omega
  | succ f ih =>
    intro n hn
    by_cases h0 : n = 0
    · simp [digsF, h0, val, Can.nil]
    · have hlt : n / b < n := Nat.div_lt_self (by omega) hb
      have := ih (n / b) (by omega)
      rw [digsF, if_neg h0]
      refine ⟨⟨fun x hx => ?_, ?_⟩, ?_⟩
      · rcases List.mem_cons.1 hx with h | h
        · rw [h]; exact Nat.mod_lt _ (by omega)
        · exact this.1.1 x h
      · rw [trim, this.1.2]
        cases hd : digsF b f (n / b) with
        | nil =>
          rw [hd] at this
          have hz : n / b = 0 := by simpa [val] using this.2.symm
          have : n % b ≠ 0 := fun h => by
            have := Nat.div_add_mod n b
            rw [hz, h] at this
            omega
          simp [this]
        | cons y ys => rfl
      · rw [val, this.2]; have := Nat.div_add_mod n b; omega

theorem digs_can {b : Nat} (hb : 1 < b) (n : Nat) : Can b (digs b n) := (digsF_ok b hb (n + 1) n (by omega)).1
theorem digs_val {b : Nat} (hb : 1 < b) (n : Nat) : val b (digs b n) = n := (digsF_ok b hb (n + 1) n (by omega)).2
theorem Can.eq_digs {b : Nat} (hb : 1 < b) {xs : List Nat} (h : Can b xs) : xs = digs b (val b xs) :=
  Can.inj (by omega) h (digs_can hb _) (digs_val hb _).symm

end Go.Proofs.Ytppbhjhbaknidaa

/-
  A block of numbers that a call has made: what it holds, read, written, and handed on as a slice. No condition.
-/
namespace Go.Proofs.Ytppbhjhbaknidaa
open Go.RowKit

def cellsOf (K : IntKind) (xs : List Nat) : Array Value := (xs.map fun (x : Nat) => Value.int K (x : Int)).toArray

/-- Block g holds just these numbers. -/
def Own (w : World) (K : IntKind) (E : TypeId) (g : Nat) (xs : List Nat) : Prop := w.heap[g]? = some (.cells (cellsOf K xs) E (0, 0))

theorem Own.lt {w : World} {K : IntKind} {E : TypeId} {g : Nat} {xs : List Nat} (h : Own w K E g xs) : g < w.heap.size := (Array.getElem?_eq_some_iff.1 h).1

theorem cellsOf_get (K : IntKind) (xs : List Nat) (i : Nat) (h : i < xs.length) : (cellsOf K xs)[i]? = some (.int K (nth xs i)) := by
  simp [cellsOf, nth_lt h, h]

theorem Own.cell {w : World} {K : IntKind} {E : TypeId} {g : Nat} {xs : List Nat} (h : Own w K E g xs) {i : Nat} (hi : i < xs.length) :
    w.cell? ⟨g, i, none⟩ = some (.int K (nth xs i)) := by
  unfold Own at h
  simp [World.cell?, h, cellsOf_get K xs i hi]

theorem Own.frozen {w : World} {K : IntKind} {E : TypeId} {g : Nat} {xs : List Nat} (h : Own w K E g xs) (i : Nat) : w.frozen? ⟨g, i, none⟩ = false := by
  unfold Own at h
  simp [World.frozen?, h]

theorem Own.set {w : World} {K : IntKind} {E : TypeId} {g : Nat} {xs : List Nat} (h : Own w K E g xs) (i : Nat) (d : Nat) :
    Own (w.setCell ⟨g, i, none⟩ (.int K d)) K E g (xs.set i d) := by
  unfold Own at h ⊢
  simp only [World.setCell, Array.getElem?_modify, h, Option.map_some, if_true]
  simp [cellsOf]

theorem Own.below {w w' : World} {K : IntKind} {E : TypeId} {g B : Nat} {xs : List Nat} (h : Own w K E g xs) (hb : Below B w w') (hg : g < B) : Own w' K E g xs := by
  unfold Own at h ⊢
  rw [hb.block g hg]; exact h

theorem Own.slAt {w : World} {K : IntKind} {E : TypeId} {g : Nat} {xs : List Nat} (h : Own w K E g xs) {n : Nat} (hn : xs.length = n) (hm : n ≤ 1099511627776) (hw : ∀ x ∈ xs, (Lit.int K x).wf = true) :
    SlAt w K (some ⟨g, 0, none⟩) n n g 0 xs :=
  ⟨hn, Nat.le_refl _, ⟨hm, by omega⟩, .inl rfl, fun i hi => by rw [Nat.zero_add]; exact h.cell (by omega), hw⟩

theorem Own.sl {w : World} {K : IntKind} {E : TypeId} {g : Nat} {xs : List Nat} (h : Own w K E g xs) {n : Nat} (hn : xs.length = n) (hm : n ≤ 1099511627776) (hw : ∀ x ∈ xs, (Lit.int K x).wf = true) :
    Sl w K (.slice (some ⟨g, 0, none⟩) n n) xs := (h.slAt hn hm hw).sl

/-- 'make([]T, n)', T a kind of numbers: n zeros in a new block. -/
theorem wpList_make_nums {P : Program} (w : World) {ops : Array Oper} {rest : List Oper} {o : Oper} {a : Act} {Q : Exit → Act → World → Prop}
    (hg : o.guard = none) (l c : Operand) (t : TypeId) (hop : o.op = Op.makeSlice t l c)
    (e : TypeId) (K : IntKind) (bytes : Nat) (h1 : P.underlying t = some (.slice e)) (h2 : (P.info? e).map (fun i => (i.zero, i.size, i.bytes)) = some (some (.int K 0), 1, bytes))
    (kl kc : IntKind) (L C : Int) (n : Nat) (hl : a.eval l = .int kl L) (hc : a.eval c = .int kc C) (hL : L = (n : Int)) (hC : C = (n : Int)) (hb : bytes ≤ 8) (hn : n ≤ 1099511627776)
    (hK : ∀ w', Own w' K e w.heap.size (List.replicate n 0) → Below w.heap.size w w' → wpList P ops Q rest (a.put o.dst (.slice (some ⟨w.heap.size, 0, none⟩) n n)) w') :
    wpList P ops Q (o :: rest) a w := by
  obtain ⟨i, hi, hz0, hz1, hz2⟩ := info_parts h2
  refine wpList_make_full w hg l c t hop 0 e i (.int K 0) 1 h1 hi hz0 hz1 kl kc L C n hl hc hL hC ?_ (by unfold maxLen; omega) (Nat.zero_le _) ?_
  · rw [hz2]
    have : bytes * n ≤ 8 * n := Nat.mul_le_mul_right _ hb
    omega
  · intro w' hown hgrow
    have hbel : Below w.heap.size w w' := (Below.refl _ w).grown hgrow (Nat.le_refl _) (fun k hk => by cases hk)
    refine hK w' ?_ hbel
    rcases hown.2 with ⟨h, _⟩ | ⟨g, cap, cur, hv, _, hh, _, _, hcs, htake⟩
    · cases h
    · simp only [Value.slice.injEq, Option.some.injEq, Addr.mk.injEq] at hv
      obtain ⟨⟨rfl, _⟩, _, rfl⟩ := hv
      unfold Own
      rw [hh]
      have hcur : cur = cellsOf K (List.replicate n 0) := by
        apply Array.toList_inj.1
        rw [List.take_of_length_le (by simp [hcs])] at htake
        rw [htake]
        apply List.ext_getElem
        · simp [madeCells, cellsOf]
        · intro j h1 h2
          simp [madeCells, cellsOf, Value.cells, Nat.mod_one]
      rw [hcur]

theorem cast_toNat {d : Int} (h : 0 ≤ d) : ((d.toNat : Nat) : Int) = d := Int.toNat_of_nonneg h

end Go.Proofs.Ytppbhjhbaknidaa

/-
  Slices of words to the base 2^32 as natural numbers; powers of two as bounds. No condition.
-/
namespace Go.Proofs.Ytppbhjhbaknidaa
open Go.RowKit

/-- 2 to the power k, behind a name. -/
def P2 (k : Nat) : Nat := 2 ^ k
theorem P2_pos (k : Nat) : 0 < P2 k := Nat.pow_pos (by omega)
theorem P2_add (a b : Nat) : P2 (a + b) = P2 a * P2 b := Nat.pow_add 2 a b
theorem P2_succ (a : Nat) : P2 (a + 1) = 2 * P2 a := by unfold P2; rw [Nat.pow_succ]; omega
theorem P2_mono {a b : Nat} (h : a ≤ b) : P2 a ≤ P2 b := Nat.pow_le_pow_right (by omega) h
theorem P2_lt {a b : Nat} (h : P2 a < P2 b) : a < b := (Nat.pow_lt_pow_iff_right (by omega)).1 h
theorem P2_32 (k : Nat) : 4294967296 ^ k = P2 (32 * k) := by
  unfold P2; rw [Nat.pow_mul]
theorem P2_16 (k : Nat) : 65536 ^ k = P2 (16 * k) := by
  unfold P2; rw [Nat.pow_mul]
theorem lt_P2_mono {n a b : Nat} (h : n < P2 a) (hab : a ≤ b) : n < P2 b := Nat.lt_of_lt_of_le h (P2_mono hab)
theorem mul_lt_P2 {m n a b : Nat} (hm : m < P2 a) (hn : n < P2 b) : m * n < P2 (a + b) := by
  rw [P2_add]
  exact Nat.mul_lt_mul'' hm hn
theorem add_lt_P2 {m n a : Nat} (hm : m < P2 a) (hn : n < P2 a) : m + n < P2 (a + 1) := by
  rw [P2_succ]; omega

/-- The slice value v holds the words of the number n, without zeros at the top. -/
def IsN (w : World) (v : Value) (n : Nat) : Prop := ∃ xs, Sl w .u32 v xs ∧ Can 4294967296 xs ∧ val 4294967296 xs = n

theorem IsN.below {w w' : World} {v : Value} {n : Nat} (h : IsN w v n) (hb : Below w.heap.size w w') : IsN w' v n :=
  let ⟨xs, h1, h2, h3⟩ := h
  ⟨xs, h1.below hb, h2, h3⟩

theorem IsN.zero (w : World) : IsN w (.slice none 0 0) 0 := ⟨[], Sl.nil w _, Can.nil _, rfl⟩

def RetN (w : World) (n : Nat) (e : Ending) (w' : World) : Prop := ∃ v, e = .returned v ∧ IsN w' v n ∧ Below w.heap.size w w'

theorem Can.len_P2 {xs : List Nat} (h : Can 4294967296 xs) {L : Nat} (hn : val 4294967296 xs < P2 L) : 32 * xs.length < L + 32 := by
  by_cases he : xs = []
  · simp [he]
  · have h1 := h.ge he
    rw [P2_32] at h1
    have := P2_lt (Nat.lt_of_le_of_lt h1 hn)
    have : 0 < xs.length := List.length_pos_iff.2 he
    omega

theorem wf_u32 {n : Nat} (h : n < 4294967296) : (Lit.int .u32 (n : Int)).wf = true := WalkArith.wf_u32 (by omega)
theorem Dg.wf32 {xs : List Nat} (h : Dg 4294967296 xs) : ∀ x ∈ xs, (Lit.int .u32 (x : Int)).wf = true := fun x hx => wf_u32 (h x hx)

/-- A norm's result, as a number. -/
theorem RetSl.num {w w0 w' : World} {xs : List Nat} {e : Ending} (h : RetSl .u32 w (trim xs) e w') (hd : Dg 4294967296 xs) {n : Nat} (hn : val 4294967296 xs = n) (hb : Below w0.heap.size w0 w) : RetN w0 n e w' := by
  obtain ⟨v, he, hv, hb'⟩ := h
  exact ⟨v, he, ⟨_, hv, hd.can, by rw [val_trim, hn]⟩, hb.trans (hb'.mono hb.size)⟩

theorem Own.seti {w : World} {K : IntKind} {E : TypeId} {g : Nat} {xs : List Nat} (h : Own w K E g xs) (i : Nat) {z : Int} (d : Nat) (hz : z = d) :
    Own (w.setCell ⟨g, i, none⟩ (.int K z)) K E g (xs.set i d) := by subst hz; exact h.set i d

theorem Dg.snoc {b : Nat} {xs : List Nat} (h : Dg b xs) {d : Nat} (hd : d < b) : Dg b (xs ++ [d]) := fun x hx => by
  rcases List.mem_append.1 hx with hx | hx
  · exact h x hx
  · rw [List.mem_singleton.1 hx]; exact hd
theorem Dg.append {b : Nat} {xs ys : List Nat} (h : Dg b xs) (h2 : Dg b ys) : Dg b (xs ++ ys) := fun x hx => by
  rcases List.mem_append.1 hx with hx | hx
  · exact h x hx
  · exact h2 x hx
theorem Dg.nil (b : Nat) : Dg b [] := fun _ hx => absurd hx List.not_mem_nil

theorem set_zeros (ys : List Nat) (k n d : Nat) (hk : ys.length = k) (hn : k < n) : (ys ++ List.replicate (n - k) 0).set k d = (ys ++ [d]) ++ List.replicate (n - (k + 1)) 0 := by
  obtain ⟨m, hm⟩ : ∃ m, n - k = m + 1 := ⟨n - k - 1, by omega⟩
  have hm' : n - (k + 1) = m := by omega
  rw [hm, hm', List.replicate_succ, List.set_append_right _ _ (by omega), hk, Nat.sub_self, List.set_cons_zero, List.append_assoc, List.singleton_append]

theorem wrap_u64 (n : Int) : IntKind.u64.wrap n = n % 18446744073709551616 := by
  simp [IntKind.wrap, IntKind.bits, IntKind.signed]

theorem nth_set_ne (zs : List Nat) (i d t : Nat) (h : i ≠ t) : nth (zs.set i d) t = nth zs t := by
  simp [nth, List.getD_eq_getElem?_getD, h]
theorem nth_set_eq (zs : List Nat) (i d : Nat) (h : i < zs.length) : nth (zs.set i d) i = d := by
  simp [nth, List.getD_eq_getElem?_getD, h]
theorem nth_zeros (n i : Nat) : nth (List.replicate n 0) i = 0 := by
  simp only [nth, List.getD_eq_getElem?_getD, List.getElem?_replicate]
  split <;> rfl
theorem Own.drewN {w : World} {K : IntKind} {E : TypeId} {g : Nat} {xs : List Nat} (h : Own w K E g xs) (n : Nat) : Own (w.drewN n) K E g xs := h
theorem below_drewN' {B : Nat} {a w : World} (h : Below B a w) (n : Nat) : Below B a (w.drewN n) := ⟨h.os, h.tape, h.output, h.size, h.block⟩

end Go.Proofs.Ytppbhjhbaknidaa

/-
  The contract of the program's add: the sum. Condition: numbers of at most 2^33 bits.
-/
namespace Go.Proofs.Ytppbhjhbaknidaa
open Go.RowKit

/-- Behind k places: the digits that are written, and the carry. -/
structure AddInv (xs ys zs : List Nat) (k c : Nat) : Prop where
  len : zs.length = k
  dg : Dg 4294967296 zs
  car : c ≤ 1
  eq : val 4294967296 zs + 4294967296 ^ k * c = val 4294967296 (xs.take k) + val 4294967296 (ys.take k)

theorem AddInv.zero (xs ys : List Nat) : AddInv xs ys [] 0 0 := ⟨rfl, Dg.nil _, by omega, by simp [val]⟩

theorem AddInv.step {xs ys zs : List Nat} {k c : Nat} (h : AddInv xs ys zs k c) (ha : Dg 4294967296 xs) (hb : Dg 4294967296 ys) (s : Nat) (hs : s = nth xs k + c + nth ys k) :
    AddInv xs ys (zs ++ [s % 4294967296]) (k + 1) (s / 4294967296) := by
  have h1 := ha.nth (by omega) k
  have h2 := hb.nth (by omega) k
  have h3 := h.car
  refine ⟨by rw [List.length_append, h.len]; rfl, h.dg.snoc (Nat.mod_lt _ (by omega)), by omega, ?_⟩
  rw [val_snoc, h.len, val_take_succ, val_take_succ]
  have e := h.eq
  have e1 : 4294967296 ^ (k + 1) * (s / 4294967296) = 4294967296 ^ k * (4294967296 * (s / 4294967296)) := by rw [Nat.pow_succ, Nat.mul_assoc]
  rw [e1]
  generalize 4294967296 ^ k = p at *
  have e2 : p * (s % 4294967296) + p * (4294967296 * (s / 4294967296)) = p * nth xs k + p * c + p * nth ys k := by
    rw [← Nat.mul_add, Nat.mod_add_div, hs, Nat.mul_add, Nat.mul_add]
  omega

theorem AddInv.done {xs ys zs : List Nat} {k c : Nat} (h : AddInv xs ys zs k c) (hx : xs.length ≤ k) (hy : ys.length ≤ k) :
    Dg 4294967296 (zs ++ [c]) ∧ val 4294967296 (zs ++ [c]) = val 4294967296 xs + val 4294967296 ys := by
  have := h.car
  refine ⟨h.dg.snoc (by omega), ?_⟩
  rw [val_snoc, h.len, h.eq, val_take_ge _ hx, val_take_ge _ hy]

set_option maxHeartbeats 1000000 in
theorem add_core (sw : Bool) (va vb : Value) (xs ys : List Nat) (w : World) (ha : Sl w .u32 va xs) (hb : Sl w .u32 vb ys) (hda : Dg 4294967296 xs) (hdb : Dg 4294967296 ys)
    (hsw : sw = true → ys.length < xs.length) (hab : ys.length ≤ xs.length) (hla : xs.length ≤ 1073741824) :
    Calls Try.prog 99 (if sw then #[vb, va] else #[va, vb]) w (RetN w (val 4294967296 xs + val 4294967296 ys)) := by
  obtain ⟨ao, n, cap, b, off, rfl, hs⟩ := ha
  obtain ⟨ao2, n2, cap2, b2, off2, rfl, hs2⟩ := hb
  have hle := hs.le
  have hmax := hs.max
  have hle2 := hs2.le
  have hmax2 := hs2.max
  have hn : n2 ≤ n := by rw [← hs.len, ← hs2.len]; exact hab
  have hn' : n ≤ 1073741824 := by rw [← hs.len]; exact hla
  rw [hs.len, hs2.len] at hsw
  clear hab hla
  cases sw
  case' true => have hlt0 := hsw rfl
  all_goals
    clear hsw
    simp only [Bool.false_eq_true, if_false, if_true]
    go_enter Try.func99, Try.ntmps99
    go_wp2_with (first | (at_make; refine wpList_make_nums _ rfl _ _ 23 rfl 115 .u32 4 Try.underlying23 (by kernel_rfl) .i64 .i64 _ _ (n + 1) rfl rfl rfl rfl (by omega) (by omega) ?_; intro w1 hown hbel))
    go_loopw [6, 22] (fun c i wr => ∃ (k cc : Nat) (zs : List Nat), k ≤ n ∧ i = .int .i64 k ∧ c = .int .u64 cc ∧ AddInv xs ys zs k cc ∧ Own wr .u32 115 w.heap.size (zs ++ List.replicate (n + 1 - k) 0) ∧ Below w.heap.size w wr)
      (fun _ i _ => n - (intOf i).toNat)
    case atStart => exact ⟨0, 0, [], Nat.zero_le _, rfl, rfl, AddInv.zero _ _, by simpa using hown, hbel⟩
    case round =>
      obtain ⟨k, cc, zs, hk, rfl, rfl, hinv, hown1, hbel1⟩ := hrel
      clear hown hbel
      have hcc := hinv.car
      have ho : wr.cell? ⟨w.heap.size, k, none⟩ = some (.int .u32 (nth (zs ++ List.replicate (n + 1 - k) 0) k)) := hown1.cell (by rw [List.length_append, hinv.len, List.length_replicate]; omega)
      have hf := hown1.frozen k
      by_cases hlt : k < n
      · obtain rfl := hs.addr.resolve_right (by omega)
        have hc1 : wr.cell? ⟨b, off + k, none⟩ = some (.int .u32 (nth xs k)) := by
          rw [hbel1.cell (p := ⟨b, off + k, none⟩) (hs.lt (by omega))]; exact hs.cells k hlt
        have hx := hda.nth (by omega) k
        have hy := hdb.nth (by omega) k
        have hfin := hinv.step hda hdb _ rfl
        have HF := Lib.hid hfin
        clear hfin
        by_cases hlt2 : k < n2
        · obtain rfl := hs2.addr.resolve_right (by omega)
          have hc2 : wr.cell? ⟨b2, off2 + k, none⟩ = some (.int .u32 (nth ys k)) := by
            rw [hbel1.cell (p := ⟨b2, off2 + k, none⟩) (hs2.lt (by omega))]; exact hs2.cells k hlt2
          go_wp2
          go_roundw
          case rel =>
            refine ⟨k + 1, _, _, by omega, by go_num, ?_, HF.out, ?_, hbel1.setCell (Nat.le_refl _) _⟩
            · refine congrArg _ ?_; omega
            · rw [← set_zeros zs k (n + 1) _ hinv.len (by omega)]
              exact hown1.seti k _ (by omega)
          case measure => simp [intOf]; omega
        · have hy0 : nth ys k = 0 := nth_ge (by rw [hs2.len]; omega)
          have HY := Lib.hid hy0
          clear hy0
          go_wp2
          go_roundw
          case rel =>
            refine ⟨k + 1, _, _, by omega, by go_num, ?_, HF.out, ?_, hbel1.setCell (Nat.le_refl _) _⟩
            · refine congrArg _ ?_; rw [HY.out]; omega
            · rw [← set_zeros zs k (n + 1) _ hinv.len (by omega)]
              exact hown1.seti k _ (by rw [HY.out]; omega)
          case measure => simp [intOf]; omega
      · obtain rfl : k = n := by omega
        have hfin := hinv.done (by rw [hs.len]; omega) (by rw [hs2.len]; omega)
        have hset := set_zeros zs k (k + 1) cc hinv.len (by omega)
        rw [Nat.sub_self, List.replicate_zero, List.append_nil] at hset
        have HF := Lib.hid hfin
        clear hfin
        have hown2 := hown1.seti k (z := (cc : Int)) cc rfl
        rw [hset] at hown2
        have HL : Hid ((zs ++ [cc]).length = k + 1) := by rw [List.length_append, hinv.len]; rfl
        have hb2 := hbel1.setCell (p := ⟨w.heap.size, k, none⟩) (Nat.le_refl _) (.int .u32 (cc : Int))
        clear hset
        go_wp2_with fail
        refine (norm_any _ (zs ++ [cc]) _ (hown2.sl HL.out (by omega) HF.out.1.wf32)).mono ?_
        intro e w2 hr
        obtain ⟨v, rfl, hv, hb3⟩ := hr.num HF.out.1 HF.out.2 hb2
        go_wp2
        go_ret
        exact ⟨_, rfl, hv, hb3⟩

theorem add_any {w : World} {va vb : Value} {m n : Nat} (ha : IsN w va m) (hb : IsN w vb n) (L : Nat) (hL : L ≤ 8589934592) (hm : m < P2 L) (hn : n < P2 L) :
    Calls Try.prog 99 #[va, vb] w (RetN w (m + n)) := by
  obtain ⟨xs, h1, h2, rfl⟩ := ha
  obtain ⟨ys, g1, g2, rfl⟩ := hb
  have l1 := h2.len_P2 hm
  have l2 := g2.len_P2 hn
  by_cases h : xs.length < ys.length
  · rw [Nat.add_comm]
    exact add_core true vb va ys xs w g1 h1 g2.1 h2.1 (fun _ => h) (by omega) (by omega)
  · exact add_core false va vb xs ys w h1 g1 h2.1 g2.1 (fun h => by cases h) (by omega) (by omega)

#print axioms add_any
end Go.Proofs.Ytppbhjhbaknidaa

/-
  The contract of the program's sub: the difference. Conditions: the second number is at most the first; numbers of at most 2^33 bits.
-/
set_option linter.unusedVariables false
set_option linter.unusedSimpArgs false
namespace Go.Proofs.Ytppbhjhbaknidaa
open Go.RowKit

/-- Behind k places: the digits that are written, and what was borrowed. -/
structure SubInv (xs ys zs : List Nat) (k c : Nat) : Prop where
  len : zs.length = k
  dg : Dg 4294967296 zs
  car : c ≤ 1
  eq : val 4294967296 zs + val 4294967296 (ys.take k) = val 4294967296 (xs.take k) + 4294967296 ^ k * c

theorem SubInv.zero (xs ys : List Nat) : SubInv xs ys [] 0 0 := ⟨rfl, Dg.nil _, by omega, by simp [val]⟩

/-- What the difference at a place wraps to. -/
def subW (x c y : Nat) : Nat := if c + y ≤ x then x - c - y else x + 18446744073709551616 - c - y

theorem subW_wrap {x c y : Nat} (hx : x < 4294967296) (hc : c ≤ 1) (hy : y < 4294967296) : IntKind.u64.wrap (IntKind.u64.wrap ((x : Int) - c) - y) = (subW x c y : Int) := by
  rw [wrap_u64, wrap_u64]
  unfold subW
  split <;> omega
theorem subW_wrap0 {x c : Nat} (hx : x < 4294967296) (hc : c ≤ 1) : IntKind.u64.wrap ((x : Int) - c) = (subW x c 0 : Int) := by
  rw [wrap_u64]
  unfold subW
  split <;> omega

theorem SubInv.step {xs ys zs : List Nat} {k c : Nat} (h : SubInv xs ys zs k c) (ha : Dg 4294967296 xs) (hb : Dg 4294967296 ys) :
    SubInv xs ys (zs ++ [subW (nth xs k) c (nth ys k) % 4294967296]) (k + 1) (subW (nth xs k) c (nth ys k) / 9223372036854775808) := by
  have h1 := ha.nth (by omega) k
  have h2 := hb.nth (by omega) k
  have h3 := h.car
  generalize hx : nth xs k = x at *
  generalize hy : nth ys k = y at *
  have hcase : (c + y ≤ x ∧ subW x c y % 4294967296 = x - c - y ∧ subW x c y / 9223372036854775808 = 0) ∨ (x < c + y ∧ subW x c y % 4294967296 = x + 4294967296 - c - y ∧ subW x c y / 9223372036854775808 = 1) := by
    unfold subW
    split
    · left; omega
    · right; omega
  refine ⟨by rw [List.length_append, h.len]; rfl, h.dg.snoc (Nat.mod_lt _ (by omega)), by omega, ?_⟩
  rw [val_snoc, h.len, val_take_succ, val_take_succ, hx, hy]
  have e := h.eq
  rw [Nat.pow_succ]
  generalize 4294967296 ^ k = p at *
  rcases hcase with ⟨g0, g1, g2⟩ | ⟨g0, g1, g2⟩
  · rw [g1, g2]
    have : p * x = p * (x - c - y) + p * c + p * y := by rw [← Nat.mul_add, ← Nat.mul_add]; congr 1; omega
    omega
  · rw [g1, g2]
    have : p * x + p * 4294967296 = p * (x + 4294967296 - c - y) + p * c + p * y := by rw [← Nat.mul_add, ← Nat.mul_add, ← Nat.mul_add]; congr 1; omega
    omega

theorem SubInv.done {xs ys zs : List Nat} {k c : Nat} (h : SubInv xs ys zs k c) (ha : Dg 4294967296 xs) (hx : xs.length = k) (hy : ys.length ≤ k) (hle : val 4294967296 ys ≤ val 4294967296 xs) :
    val 4294967296 zs = val 4294967296 xs - val 4294967296 ys := by
  have e := h.eq
  rw [val_take_ge _ (Nat.le_of_eq hx), val_take_ge _ hy] at e
  have h1 := val_lt h.dg
  have h2 := val_lt ha
  rw [h.len] at h1
  rw [hx] at h2
  have := h.car
  by_cases hc : c = 0
  · subst hc; omega
  · have : c = 1 := by omega
    subst this
    omega

set_option maxHeartbeats 1000000 in
theorem sub_any {w : World} {va vb : Value} {m n : Nat} (ha : IsN w va m) (hb : IsN w vb n) (L : Nat) (hL : L ≤ 8589934592) (hm : m < P2 L) (hmn : n ≤ m) :
    Calls Try.prog 112 #[va, vb] w (RetN w (m - n)) := by
  obtain ⟨xs, ha, hca, rfl⟩ := ha
  obtain ⟨ys, hb, hcb, rfl⟩ := hb
  have l1 := hca.len_P2 hm
  have l2 : ys.length ≤ xs.length := hcb.len_le (by omega) (Nat.lt_of_le_of_lt hmn (val_lt hca.1))
  obtain ⟨ao, n, cap, b, off, rfl, hs⟩ := ha
  obtain ⟨ao2, n2, cap2, b2, off2, rfl, hs2⟩ := hb
  rw [hs.len] at l1 l2
  rw [hs2.len] at l2
  have hle := hs.le
  have hmax := hs.max
  have hle2 := hs2.le
  have hmax2 := hs2.max
  have HM := Lib.hid hmn
  have hda := hca.1
  have hdb := hcb.1
  clear hm hmn
  go_enter Try.func112, Try.ntmps112
  go_wp2_with (first | (at_make; refine wpList_make_nums _ rfl _ _ 23 rfl 115 .u32 4 Try.underlying23 (by kernel_rfl) .i64 .i64 _ _ n rfl rfl rfl rfl (by omega) (by omega) ?_; intro w1 hown hbel))
  go_loopw [6, 14] (fun c i wr => ∃ (k cc : Nat) (zs : List Nat), k ≤ n ∧ i = .int .i64 k ∧ c = .int .u64 cc ∧ SubInv xs ys zs k cc ∧ Own wr .u32 115 w.heap.size (zs ++ List.replicate (n - k) 0) ∧ Below w.heap.size w wr)
    (fun _ i _ => n - (intOf i).toNat)
  case atStart => exact ⟨0, 0, [], Nat.zero_le _, rfl, rfl, SubInv.zero _ _, by simpa using hown, hbel⟩
  case round =>
    obtain ⟨k, cc, zs, hk, rfl, rfl, hinv, hown1, hbel1⟩ := hrel
    clear hown hbel
    have hcc := hinv.car
    by_cases hlt : k < n
    · have ho : wr.cell? ⟨w.heap.size, k, none⟩ = some (.int .u32 (nth (zs ++ List.replicate (n - k) 0) k)) := hown1.cell (by rw [List.length_append, hinv.len, List.length_replicate]; omega)
      have hf := hown1.frozen k
      obtain rfl := hs.addr.resolve_right (by omega)
      have hc1 : wr.cell? ⟨b, off + k, none⟩ = some (.int .u32 (nth xs k)) := by
        rw [hbel1.cell (p := ⟨b, off + k, none⟩) (hs.lt (by omega))]; exact hs.cells k hlt
      have hx := hda.nth (by omega) k
      have hy := hdb.nth (by omega) k
      have HF := Lib.hid (hinv.step hda hdb)
      by_cases hlt2 : k < n2
      · obtain rfl := hs2.addr.resolve_right (by omega)
        have hc2 : wr.cell? ⟨b2, off2 + k, none⟩ = some (.int .u32 (nth ys k)) := by
          rw [hbel1.cell (p := ⟨b2, off2 + k, none⟩) (hs2.lt (by omega))]; exact hs2.cells k hlt2
        have HW := Lib.hid (subW_wrap hx hcc hy)
        go_wp2
        rw [HW.out]
        go_roundw
        case rel =>
          refine ⟨k + 1, _, _, by omega, by go_num, ?_, HF.out, ?_, hbel1.setCell (Nat.le_refl _) _⟩
          · refine congrArg _ ?_; omega
          · rw [← set_zeros zs k n _ hinv.len (by omega)]
            exact hown1.seti k _ (by omega)
        case measure => simp [intOf]; omega
      · have HY : Hid (nth ys k = 0) := nth_ge (by rw [hs2.len]; omega)
        have HW := Lib.hid (subW_wrap0 hx hcc)
        go_wp2
        rw [HW.out]
        go_roundw
        case rel =>
          refine ⟨k + 1, _, _, by omega, by go_num, ?_, HF.out, ?_, hbel1.setCell (Nat.le_refl _) _⟩
          · refine congrArg _ ?_; rw [HY.out]; omega
          · rw [← set_zeros zs k n _ hinv.len (by omega)]
            exact hown1.seti k _ (by rw [HY.out]; omega)
        case measure => simp [intOf]; omega
    · obtain rfl : k = n := by omega
      rw [Nat.sub_self, List.replicate_zero, List.append_nil] at hown1
      have hfin := hinv.done hda hs.len (by rw [hs2.len]; omega) HM.out
      have HF := Lib.hid hfin
      clear hfin
      have HL := Lib.hid hinv.len
      go_wp2_with fail
      refine (norm_any _ zs _ (hown1.sl HL.out (by omega) hinv.dg.wf32)).mono ?_
      intro e w2 hr
      obtain ⟨v, rfl, hv, hb3⟩ := hr.num hinv.dg HF.out hbel1
      go_wp2
      go_ret
      exact ⟨_, rfl, hv, hb3⟩

end Go.Proofs.Ytppbhjhbaknidaa

/-
  The contract of the program's cmp: -1, 0 or 1 as the numbers are. Condition: numbers of at most 2^33 bits.
-/
namespace Go.Proofs.Ytppbhjhbaknidaa
open Go.RowKit

def cmpI (m n : Nat) : Int := if m < n then -1 else if n < m then 1 else 0

theorem list_ext_nth {xs ys : List Nat} (h : xs.length = ys.length) (he : ∀ i, i < xs.length → nth xs i = nth ys i) : xs = ys := by
  apply List.ext_getElem h
  intro i h1 h2
  rw [← nth_lt h1, ← nth_lt h2]; exact he i h1

theorem val_at (b : Nat) (xs : List Nat) (k : Nat) (h : k < xs.length) : val b xs = val b (xs.take k) + b ^ k * (nth xs k + b * val b (xs.drop (k + 1))) := by
  rw [val_take_drop b xs (k + 1) (by omega), val_take_succ, Nat.mul_add, Nat.pow_succ, Nat.mul_assoc]; omega

theorem val_lt_at {b : Nat} {xs ys : List Nat} (hx : Dg b xs) (hl : xs.length = ys.length) (k : Nat) (hk : k < xs.length)
    (he : ∀ t, k < t → nth xs t = nth ys t) (hlt : nth xs k < nth ys k) : val b xs < val b ys := by
  rw [val_at b xs k hk, val_at b ys k (by omega)]
  have e : xs.drop (k + 1) = ys.drop (k + 1) := by
    apply list_ext_nth (by rw [List.length_drop, List.length_drop, hl])
    intro i _
    rw [nth_drop, nth_drop]; exact he _ (by omega)
  have h1 := val_lt (hx.take k)
  rw [List.length_take, Nat.min_eq_left (by omega)] at h1
  rw [e]
  have h2 : b ^ k * (nth xs k + 1 + b * val b (ys.drop (k + 1))) ≤ b ^ k * (nth ys k + b * val b (ys.drop (k + 1))) := Nat.mul_le_mul_left _ (by omega)
  have h3 : b ^ k * (nth xs k + 1 + b * val b (ys.drop (k + 1))) = b ^ k * (nth xs k + b * val b (ys.drop (k + 1))) + b ^ k := by
    rw [show nth xs k + 1 + b * val b (ys.drop (k + 1)) = (nth xs k + b * val b (ys.drop (k + 1))) + 1 by omega, Nat.mul_add, Nat.mul_one]
  omega

theorem val_lt_len {b : Nat} (hb : 0 < b) {xs ys : List Nat} (hx : Dg b xs) (hy : Can b ys) (hl : xs.length < ys.length) : val b xs < val b ys := by
  have h1 := val_lt hx
  have h2 := hy.ge (by intro h; simp [h] at hl)
  have h3 : b ^ xs.length ≤ b ^ (ys.length - 1) := Nat.pow_le_pow_right hb (by omega)
  omega

def RetI (w : World) (z : Int) (e : Ending) (w' : World) : Prop := e = .returned (.int .i64 z) ∧ Below w.heap.size w w'


set_option maxHeartbeats 1000000 in
theorem cmp_any {w : World} {va vb : Value} {m n : Nat} (ha : IsN w va m) (hb : IsN w vb n) :
    Calls Try.prog 107 #[va, vb] w (RetI w (cmpI m n)) := by
  obtain ⟨xs, ha, hca, rfl⟩ := ha
  obtain ⟨ys, hb, hcb, rfl⟩ := hb
  obtain ⟨ao, n, cap, b, off, rfl, hs⟩ := ha
  obtain ⟨ao2, n2, cap2, b2, off2, rfl, hs2⟩ := hb
  have hle := hs.le
  have hmax := hs.max
  have hle2 := hs2.le
  have hmax2 := hs2.max
  rcases Nat.lt_trichotomy n n2 with hlt | heq | hgt
  · have hv := val_lt_len (by omega) hca.1 hcb (by rw [hs.len, hs2.len]; exact hlt)
    have hfin : cmpI (val 4294967296 xs) (val 4294967296 ys) = -1 := by simp [cmpI, hv]
    rw [hfin]
    clear hfin
    have HV := Lib.hid hv
    clear hv
    go_enter Try.func107, Try.ntmps107
    go_wp2
    go_ret
    exact ⟨rfl, Below.refl _ _⟩
  · subst heq
    go_enter Try.func107, Try.ntmps107
    go_wp2
    go_loopw [5] (fun i wr => ∃ j : Nat, j ≤ n ∧ i = .int .i64 ((j : Int) - 1) ∧ (∀ t, j ≤ t → nth xs t = nth ys t) ∧ Below w.heap.size w wr)
      (fun i _ => (intOf i + 1).toNat)
    case atStart => exact ⟨n, Nat.le_refl _, rfl, fun t ht => by rw [nth_ge (by rw [hs.len]; exact ht), nth_ge (by rw [hs2.len]; exact ht)], Below.refl _ _⟩
    case round =>
      obtain ⟨j, hj, rfl, heq, hbel⟩ := hrel
      have HE := Lib.hid heq
      clear heq
      by_cases h0 : j = 0
      · have hd : decide ((0 : Int) ≤ (j : Int) - 1) = false := decide_eq_false (by omega)
        have hfin : cmpI (val 4294967296 xs) (val 4294967296 ys) = 0 := by
          have : xs = ys := list_ext_nth (by rw [hs.len, hs2.len]) (fun i _ => HE.out i (by omega))
          simp [cmpI, this]
        have HF := Lib.hid hfin
        clear hfin
        go_wp2
        go_ret
        exact ⟨by rw [HF.out]; rfl, hbel⟩
      · obtain ⟨k, rfl⟩ : ∃ k, j = k + 1 := ⟨j - 1, by omega⟩
        obtain rfl := hs.addr.resolve_right (by omega)
        obtain rfl := hs2.addr.resolve_right (by omega)
        have hc1 : wr.cell? ⟨b, off + k, none⟩ = some (.int .u32 (nth xs k)) := by
          rw [hbel.cell (p := ⟨b, off + k, none⟩) (hs.lt (by omega))]; exact hs.cells k (by omega)
        have hc2 : wr.cell? ⟨b2, off2 + k, none⟩ = some (.int .u32 (nth ys k)) := by
          rw [hbel.cell (p := ⟨b2, off2 + k, none⟩) (hs2.lt (by omega))]; exact hs2.cells k (by omega)
        rw [show ((k + 1 : Nat) : Int) - 1 = (k : Int) by omega]
        rcases Nat.lt_trichotomy (nth xs k) (nth ys k) with h1 | h1 | h1
        · have hfin : cmpI (val 4294967296 xs) (val 4294967296 ys) = -1 := by
            simp [cmpI, val_lt_at hca.1 (by rw [hs.len, hs2.len]) k (by rw [hs.len]; omega) (fun t ht => HE.out t (by omega)) h1]
          have HF := Lib.hid hfin
          clear hfin
          have t1 : ((nth xs k : Int) != (nth ys k : Int)) = true := by rw [bne_iff_ne]; omega
          have t2 : decide ((nth xs k : Int) < (nth ys k : Int)) = true := decide_eq_true (by omega)
          go_wp2
          go_quiet (fail)
          go_wp2
          go_quiet (fail)
          go_wp2
          go_ret
          exact ⟨by rw [HF.out]; rfl, below_drewN' (below_drewN' hbel _) _⟩
        · have t1 : ((nth xs k : Int) != (nth ys k : Int)) = false := by simp [h1]
          have H1 := Lib.hid h1
          clear h1
          go_wp2
          go_quiet (fail)
          go_wp2
          go_roundw
          case rel => exact ⟨k, by omega, rfl, fun t ht => by
            by_cases e : t = k
            · rw [e]; exact H1.out
            · exact HE.out t (by omega), below_drewN' hbel _⟩
          case measure => simp [intOf]
        · have hfin : cmpI (val 4294967296 xs) (val 4294967296 ys) = 1 := by
            have := val_lt_at hcb.1 (by rw [hs.len, hs2.len]) k (by rw [hs2.len]; omega) (fun t ht => (HE.out t (by omega)).symm) h1
            simp [cmpI, this, Nat.lt_asymm this]
          have HF := Lib.hid hfin
          clear hfin
          have t1 : ((nth xs k : Int) != (nth ys k : Int)) = true := by rw [bne_iff_ne]; omega
          have t2 : decide ((nth xs k : Int) < (nth ys k : Int)) = false := decide_eq_false (by omega)
          go_wp2
          go_quiet (fail)
          go_wp2
          go_quiet (fail)
          go_wp2
          go_ret
          exact ⟨by rw [HF.out]; rfl, below_drewN' (below_drewN' hbel _) _⟩
  · have hv := val_lt_len (by omega) hcb.1 hca (by rw [hs.len, hs2.len]; exact hgt)
    have hfin : cmpI (val 4294967296 xs) (val 4294967296 ys) = 1 := by simp [cmpI, hv, Nat.lt_asymm hv]
    rw [hfin]
    clear hfin
    have HV := Lib.hid hv
    clear hv
    go_enter Try.func107, Try.ntmps107
    go_wp2
    go_ret
    exact ⟨rfl, Below.refl _ _⟩

end Go.Proofs.Ytppbhjhbaknidaa

/-
  The contract of the program's mulPlain: the product. Condition: numbers of at most 2^33 bits.
-/
namespace Go.Proofs.Ytppbhjhbaknidaa
open Go.RowKit


theorem mul_bd {x y : Nat} (hx : x < 4294967296) (hy : y < 4294967296) : x * y ≤ 18446744065119617025 := by
  have := Nat.mul_le_mul (show x ≤ 4294967295 by omega) (show y ≤ 4294967295 by omega)
  omega

theorem mul_bdI {x y : Nat} (hx : x < 4294967296) (hy : y < 4294967296) : (x : Int) * (y : Int) ≤ 18446744065119617025 ∧ 0 ≤ (x : Int) * (y : Int) := by
  have := mul_bd hx hy
  rw [← Int.natCast_mul]
  omega

structure MulIn (ys zs0 zs : List Nat) (x i k c : Nat) : Prop where
  len : zs.length = zs0.length
  dg : Dg 4294967296 zs
  car : c < 4294967296
  eq : val 4294967296 zs + 4294967296 ^ (i + k) * c = val 4294967296 zs0 + 4294967296 ^ i * (x * val 4294967296 (ys.take k))
  top : ∀ t, i + k ≤ t → nth zs t = nth zs0 t

theorem MulIn.zero {ys zs0 : List Nat} (h : Dg 4294967296 zs0) (x i : Nat) : MulIn ys zs0 zs0 x i 0 0 := ⟨rfl, h, by omega, by simp [val], fun _ _ => rfl⟩

theorem MulIn.step {ys zs0 zs : List Nat} {x i k c : Nat} (h : MulIn ys zs0 zs x i k c) (hx : x < 4294967296) (hy : Dg 4294967296 ys) (hi : i + k < zs0.length) :
    MulIn ys zs0 (zs.set (i + k) ((x * nth ys k + nth zs (i + k) + c) % 4294967296)) x i (k + 1) ((x * nth ys k + nth zs (i + k) + c) / 4294967296) := by
  have b1 := mul_bd hx (hy.nth (by omega) k)
  have b2 := h.dg.nth (by omega) (i + k)
  have b3 := h.car
  have hv := val_set 4294967296 zs (i + k) ((x * nth ys k + nth zs (i + k) + c) % 4294967296) (by rw [h.len]; exact hi)
  refine ⟨by rw [List.length_set, h.len], h.dg.set _ (Nat.mod_lt _ (by omega)), by omega, ?_, ?_⟩
  · have e := h.eq
    rw [val_take_succ, Nat.mul_add x, Nat.mul_add (4294967296 ^ i)]
    have e3 : 4294967296 ^ i * (x * (4294967296 ^ k * nth ys k)) = 4294967296 ^ (i + k) * (x * nth ys k) := by
      rw [Nat.pow_add]; simp only [Nat.mul_assoc, Nat.mul_left_comm]
    rw [e3, ← Nat.add_assoc i k 1, Nat.pow_succ 4294967296 (i + k), Nat.mul_assoc]
    generalize 4294967296 ^ (i + k) = p at *
    generalize hs : x * nth ys k + nth zs (i + k) + c = s at *
    have e2 : p * (s % 4294967296) + p * (4294967296 * (s / 4294967296)) = p * (x * nth ys k) + p * nth zs (i + k) + p * c := by
      rw [← Nat.mul_add, Nat.mod_add_div, ← hs, Nat.mul_add, Nat.mul_add]
    omega
  · intro t ht
    rw [nth_set_ne _ _ _ _ (by omega)]
    exact h.top t (by omega)

structure MulOut (xs ys zs : List Nat) (i : Nat) : Prop where
  len : zs.length = xs.length + ys.length
  dg : Dg 4294967296 zs
  eq : val 4294967296 zs = val 4294967296 (xs.take i) * val 4294967296 ys
  top : ∀ t, i + ys.length ≤ t → nth zs t = 0


theorem MulOut.zero (xs ys : List Nat) (n : Nat) (h : n = xs.length + ys.length) : MulOut xs ys (List.replicate n 0) 0 :=
  ⟨by simp [h], Dg.zeros (by omega) _, by simp [val_zeros, val], fun t _ => nth_zeros n t⟩

theorem MulOut.step {xs ys zs0 zs : List Nat} {i c : Nat} (h : MulOut xs ys zs0 i) (hi : i < xs.length) (g : MulIn ys zs0 zs (nth xs i) i ys.length c) :
    MulOut xs ys (zs.set (i + ys.length) c) (i + 1) := by
  have hv := val_set 4294967296 zs (i + ys.length) c (by rw [g.len, h.len]; omega)
  have h0 : nth zs (i + ys.length) = 0 := by rw [g.top _ (Nat.le_refl _), h.top _ (Nat.le_refl _)]
  refine ⟨by rw [List.length_set, g.len, h.len], g.dg.set _ g.car, ?_, ?_⟩
  · have e := g.eq
    rw [val_take_ge _ (Nat.le_refl _), h.eq] at e
    rw [h0, Nat.mul_zero, Nat.add_zero] at hv
    rw [hv, e, val_take_succ, Nat.add_mul, Nat.mul_assoc]
  · intro t ht
    rw [nth_set_ne _ _ _ _ (by omega), g.top _ (by omega), h.top _ (by omega)]

set_option maxHeartbeats 1000000 in
theorem mulPlain_any {w : World} {va vb : Value} {m n : Nat} (ha : IsN w va m) (hb : IsN w vb n) (L : Nat) (hL : L ≤ 8589934592) (hm : m < P2 L) (hn : n < P2 L) :
    Calls Try.prog 127 #[va, vb] w (RetN w (m * n)) := by
  obtain ⟨xs, ha, hca, rfl⟩ := ha
  obtain ⟨ys, hb, hcb, rfl⟩ := hb
  have l1 := hca.len_P2 hm
  have l2 := hcb.len_P2 hn
  obtain ⟨ao, n, cap, b, off, rfl, hs⟩ := ha
  obtain ⟨ao2, n2, cap2, b2, off2, rfl, hs2⟩ := hb
  rw [hs.len] at l1
  rw [hs2.len] at l2
  have hle := hs.le
  have hmax := hs.max
  have hle2 := hs2.le
  have hmax2 := hs2.max
  have hda := hca.1
  have hdb := hcb.1
  clear hm hn
  go_enter Try.func127, Try.ntmps127
  go_wp2_with (first | (at_make; refine wpList_make_nums _ rfl _ _ 23 rfl 115 .u32 4 Try.underlying23 (by kernel_rfl) .i64 .i64 _ _ (n + n2) rfl rfl rfl rfl (by omega) (by omega) ?_; intro w1 hown hbel))
  go_loopw [18] (fun i wr => ∃ (k : Nat) (zs : List Nat), k ≤ n ∧ i = .int .i64 k ∧ MulOut xs ys zs k ∧ Own wr .u32 115 w.heap.size zs ∧ Below w.heap.size w wr)
    (fun i _ => n - (intOf i).toNat)
  case atStart => exact ⟨0, _, Nat.zero_le _, rfl, MulOut.zero xs ys (n + n2) (by rw [hs.len, hs2.len]), hown, hbel⟩
  case round =>
    obtain ⟨i, zs0, hi, rfl, hinv, hown0, hbel0⟩ := hrel
    clear hown hbel
    by_cases hlt : i < n
    · obtain rfl := hs.addr.resolve_right (by omega)
      have hx := hda.nth (by omega) i
      go_wp2
      obtain ⟨wo, rfl⟩ : ∃ wo : World, wo = wr := ⟨_, rfl⟩
      go_loopw [7, 23] (fun c k wr => ∃ (j cc : Nat) (zs : List Nat), j ≤ n2 ∧ k = .int .i64 j ∧ c = .int .u64 cc ∧ MulIn ys zs0 zs (nth xs i) i j cc ∧ Own wr .u32 115 w.heap.size zs ∧ Below w.heap.size w wr)
        (fun _ k _ => n2 - (intOf k).toNat)
      case atStart => exact ⟨0, 0, zs0, Nat.zero_le _, rfl, rfl, MulIn.zero hinv.dg _ _, hown0, hbel0⟩
      case round =>
        obtain ⟨j, cc, zs, hj, rfl, rfl, hin, hown1, hbel1⟩ := hrel
        have hcc := hin.car
        have HLZ : Hid (zs.length = n + n2) := by rw [hin.len, hinv.len, hs.len, hs2.len]; rfl
        by_cases hlt2 : j < n2
        · obtain rfl := hs2.addr.resolve_right (by omega)
          have hc1 : wr.cell? ⟨b, off + i, none⟩ = some (.int .u32 (nth xs i)) := by
            rw [hbel1.cell (p := ⟨b, off + i, none⟩) (hs.lt (by omega))]; exact hs.cells i hlt
          have hc2 : wr.cell? ⟨b2, off2 + j, none⟩ = some (.int .u32 (nth ys j)) := by
            rw [hbel1.cell (p := ⟨b2, off2 + j, none⟩) (hs2.lt (by omega))]; exact hs2.cells j hlt2
          have ho : wr.cell? ⟨w.heap.size, i + j, none⟩ = some (.int .u32 (nth zs (i + j))) := hown1.cell (by rw [HLZ.out]; omega)
          have hf := hown1.frozen (i + j)
          have hy := hdb.nth (by omega) j
          have hz := hin.dg.nth (by omega) (i + j)
          have hbb := mul_bdI hx hy
          obtain ⟨hb', hb0⟩ := hbb
          have HF := Lib.hid (hin.step hx hdb (by rw [hinv.len, hs.len, hs2.len]; omega))
          have e1 : IntKind.u64.wrap ((nth xs i : Int) * (nth ys j : Int)) = (nth xs i : Int) * (nth ys j : Int) := IntWalk.u64_in _ (by omega)
          have e2 : IntKind.u64.wrap ((nth xs i : Int) * (nth ys j : Int) + (nth zs (i + j) : Int)) = (nth xs i : Int) * (nth ys j : Int) + (nth zs (i + j) : Int) := IntWalk.u64_in _ (by omega)
          have e3 : IntKind.u64.wrap ((nth xs i : Int) * (nth ys j : Int) + (nth zs (i + j) : Int) + (cc : Int)) = (nth xs i : Int) * (nth ys j : Int) + (nth zs (i + j) : Int) + (cc : Int) := IntWalk.u64_in _ (by omega)
          go_wp2
          go_quiet (fail)
          go_wp2
          go_roundw
          case rel =>
            clear e1 e2 e3
            refine ⟨j + 1, _, _, by omega, by go_num, ?_, HF.out, ?_, (below_drewN' hbel1 _).setCell (Nat.le_refl _) _⟩
            · refine congrArg _ ?_; rw [← Int.natCast_mul]; omega
            · exact (hown1.drewN _).seti (i + j) _ (by rw [← Int.natCast_mul]; omega)
          case measure => simp [intOf]; omega
        · obtain rfl : j = n2 := by omega
          have ho : wr.cell? ⟨w.heap.size, i + j, none⟩ = some (.int .u32 (nth zs (i + j))) := hown1.cell (by rw [HLZ.out]; omega)
          have hf := hown1.frozen (i + j)
          have HF := Lib.hid (hinv.step (by rw [hs.len]; exact hlt) (by rw [hs2.len]; exact hin))
          go_wp2
          go_roundw
          case rel =>
            refine ⟨i + 1, _, by omega, by go_num, HF.out, ?_, hbel1.setCell (Nat.le_refl _) _⟩
            rw [hs2.len]
            exact hown1.seti (i + j) _ (by omega)
          case measure => simp [intOf]; omega
    · obtain rfl : i = n := by omega
      have hfin : val 4294967296 zs0 = val 4294967296 xs * val 4294967296 ys := by
        rw [hinv.eq, val_take_ge _ (Nat.le_of_eq hs.len)]
      have HF := Lib.hid hfin
      clear hfin
      have HL := Lib.hid hinv.len
      go_wp2_with fail
      refine (norm_any _ zs0 _ (hown0.sl (n := i + n2) (by rw [HL.out, hs.len, hs2.len]) (by omega) hinv.dg.wf32)).mono ?_
      intro e w2 hr
      obtain ⟨v, rfl, hv, hb3⟩ := hr.num hinv.dg HF.out hbel0
      go_wp2
      go_ret
      exact ⟨_, rfl, hv, hb3⟩

end Go.Proofs.Ytppbhjhbaknidaa

/-
  The contract of the program's up: the number times a power of the base. Condition: sizes of at most 2^33 bits.
-/
namespace Go.Proofs.Ytppbhjhbaknidaa
open Go.RowKit

theorem cellsOf_eq (K : IntKind) (xs : List Nat) : cellsOf K xs = (xs.map fun (x : Nat) => Value.int K (x : Int)).toArray := rfl

/-- 'copy(out[off:], src)' into a block of numbers of the call's own. -/
theorem wpList_copy_nums {P : Program} {w : World} {ops : Array Oper} {rest : List Oper} {o : Oper} {a : Act} {Q : Exit → Act → World → Prop} (hgd : o.guard = none) (d s : Operand) (dT sT : TypeId)
    (ho : o.op = .call { callee := .builtin .copy, args := #[d, s], argTypes := #[dT, sT] }) (elem : TypeId) (hu : P.underlying dT = some (.slice elem)) (hsz : (P.info? elem).map (·.size) = some 1)
    (dp : Option Addr) (dLen dCap : Nat) (hd : a.eval d = .slice dp dLen dCap) (K : IntKind) (sp : Option Addr) (sLen sCap b off2 : Nat) (ys : List Nat) (hs : a.eval s = .slice sp sLen sCap) (hsl : SlAt w K sp sLen sCap b off2 ys)
    (g off : Nat) (zs : List Nat) (E : TypeId) (hown : Own w K E g zs) (m : Nat) (hm : m = Nat.min sLen dLen) (hdp : 0 < m → dp = some ⟨g, off, none⟩) (hfit : off + m ≤ zs.length)
    (B : Nat) (w0 : World) (hb : Below B w0 w) (hBg : B ≤ g)
    (h : ∀ w', Own w' K E g (zs.take off ++ (ys.take m ++ zs.drop (off + m))) → Below B w0 w' → wpList P ops Q rest (a.put o.dst (goInt m)) w') :
    wpList P ops Q (o :: rest) a w := by
  have hmin : m ≤ sLen := by rw [hm]; exact Nat.min_le_left _ _
  have hlen : (ys.take m).length = m := by rw [List.length_take, hsl.len]; omega
  have hcl : ((ys.take m).map fun (x : Nat) => Value.int K (x : Int)).length = m := by rw [List.length_map, hlen]
  have key := wpList_copy_splice (P := P) (w := w) (ops := ops) (rest := rest) (o := o) (a := a) (Q := Q) hgd d s dT sT ho elem hu hsz dp sp dLen dCap sLen sCap hd hs g off
    (zs.map fun (x : Nat) => Value.int K (x : Int)) E hown ((ys.take m).map fun (x : Nat) => Value.int K (x : Int)) (by rw [hcl, hm]) ?_ (by rw [hcl, List.length_map]; exact hfit) ?_ B w0 hb hBg ?_
  · exact key
  · intro hpos
    rw [hcl] at hpos
    refine ⟨hdp hpos, ⟨b, off2, none⟩, hsl.addr.resolve_right (by omega), ?_⟩
    intro j v hj
    have hj' : j < m := by
      have := (List.getElem?_eq_some_iff.1 hj).1
      rw [hcl] at this; exact this
    rw [Addr.add_lit, hsl.cells j (by omega)]
    rw [List.getElem?_map, List.getElem?_take, if_pos hj'] at hj
    simp only [Option.map_eq_some_iff] at hj
    obtain ⟨x, hx, rfl⟩ := hj
    simp [nth, List.getD_eq_getElem?_getD, hx]
  · intro v hv
    obtain ⟨x, _, rfl⟩ := List.mem_map.1 hv
    rfl
  · intro w' hg hbel
    rw [hcl]
    refine h w' ?_ hbel
    have := hg.out
    unfold Own cellsOf
    rw [this]
    have hl2 : min m ys.length = m := by rw [hsl.len]; omega
    simp [splice, hl2]

theorem trim_append {xs ys : List Nat} (h : trim ys = ys) (hn : ys ≠ []) : trim (xs ++ ys) = xs ++ ys := by
  induction xs with
  | nil => exact h
  | cons x xs ih =>
    rw [List.cons_append, trim, ih]
    cases hc : xs ++ ys with
    | nil => rw [List.append_eq_nil_iff] at hc; exact absurd hc.2 hn
    | cons z zs => rfl

set_option maxHeartbeats 1000000 in
theorem up_any {w : World} {v : Value} {m : Nat} (ha : IsN w v m) (k : Int) (hk0 : 0 ≤ k) (hk : k ≤ 268435456) (L : Nat) (hL : L ≤ 8589934592) (hm : m < P2 L) :
    Calls Try.prog 128 #[v, .int .i64 k] w (RetN w (m * P2 (32 * k.toNat))) := by
  obtain ⟨k, rfl⟩ := Int.eq_ofNat_of_zero_le hk0
  rw [Int.toNat_natCast]
  obtain ⟨xs, ha, hca, rfl⟩ := ha
  have l1 := hca.len_P2 hm
  obtain ⟨ao, n, cap, b, off, rfl, hs⟩ := ha
  rw [hs.len] at l1
  have hnb : n ≤ 300000000 := by omega
  have hle := hs.le
  have hmax := hs.max
  clear hm
  by_cases h0 : n = 0
  · have hx : xs = [] := List.eq_nil_of_length_eq_zero (by rw [hs.len, h0])
    subst hx
    have hb : ((n : Int) == 0) = true := by simp [h0]
    rw [show val 4294967296 [] = 0 from rfl, Nat.zero_mul]
    go_enter Try.func128, Try.ntmps128
    go_wp2
    go_ret
    exact ⟨_, rfl, IsN.zero _, Below.refl _ _⟩
  · have hb : ((n : Int) == 0) = false := by simp [h0]
    have hne : xs ≠ [] := fun h => h0 (by rw [← hs.len, h]; rfl)
    have hca2 : Can 4294967296 (List.replicate k 0 ++ xs) := ⟨(Dg.zeros (by omega) k).append hca.1, trim_append hca.2 hne⟩
    have hval : val 4294967296 (List.replicate k 0 ++ xs) = val 4294967296 xs * P2 (32 * k) := by
      rw [val_append, val_zeros, List.length_replicate, P2_32, Nat.zero_add, Nat.mul_comm]
    have HV := Lib.hid hval
    clear hval hne
    go_enter Try.func128, Try.ntmps128
    go_wp2_with (first | (at_make; refine wpList_make_nums _ rfl _ _ 23 rfl 115 .u32 4 Try.underlying23 (by kernel_rfl) .i64 .i64 _ _ (k + n) rfl rfl rfl rfl (by omega) (by omega) ?_; intro w1 hown hbel; clear hL l1) | (with_reducible (refine wpList_copy_nums rfl (.tmp 16) (.tmp 17) 23 23 rfl 115 Try.underlying23 ?c1 ?d1 ?d2 ?d3 ?c2 .u32 ?d4 ?d5 ?d6 b off xs ?c3 ?c4 w.heap.size k (List.replicate (k + n) 0) 115 ?c5 n ?c6 ?c7 ?c8 w.heap.size w ?c9 ?c10 ?c11)))
    case c1 => kernel_rfl
    case c2 => exact rfl
    case c3 => exact rfl
    case c4 => exact hs.below hbel
    case c5 => exact hown
    case c6 => simp
    case c7 => exact fun _ => rfl
    case c8 => simp
    case c9 => exact hbel
    case c10 => exact Nat.le_refl _
    intro w2 hown2 hbel2
    rw [List.take_of_length_le (by rw [hs.len]; omega)] at hown2
    go_wp2
    go_ret
    refine ⟨_, rfl, ⟨_, hown2.sl (by rw [List.length_append, List.length_replicate, hs.len]) (by omega) hca2.1.wf32, hca2, HV.out⟩, hbel2⟩
end Go.Proofs.Ytppbhjhbaknidaa

/-
  The contract of the program's mul (Karatsuba's way): the product. Condition: numbers of at most 2^32 bits.
-/
namespace Go.Proofs.Ytppbhjhbaknidaa
open Go.RowKit

theorem SlAt.drewN {w : World} {K : IntKind} {ao : Option Addr} {n cap b off : Nat} {xs : List Nat} (h : SlAt w K ao n cap b off xs) (q : Nat) : SlAt (w.drewN q) K ao n cap b off xs :=
  { h with cells := fun i hi => h.cells i hi }

/-- 'a[:h]': the first numbers, the same place. -/
theorem SlAt.head {w : World} {K : IntKind} {ao : Option Addr} {n cap b off : Nat} {xs : List Nat} (h : SlAt w K ao n cap b off xs) {m : Nat} (hm : m ≤ n) : SlAt w K ao m cap b off (xs.take m) :=
  ⟨by rw [List.length_take, h.len]; omega, by have := h.le; omega, by have := h.le; have := h.max; omega,
    by rcases h.addr with h | ⟨h, h1, h2⟩
       · exact .inl h
       · exact .inr ⟨h, by omega, h2⟩,
    fun i hi => by rw [nth_take hi]; exact h.cells i (by omega), wf_take h.wf m⟩

/-- 'a[h:]', h before the end: the other numbers, behind. -/
theorem SlAt.tail {w : World} {K : IntKind} {n cap b off : Nat} {xs : List Nat} (h : SlAt w K (some ⟨b, off, none⟩) n cap b off xs) {m : Nat} (hm : m ≤ n) : SlAt w K (some ⟨b, off + m, none⟩) (n - m) (cap - m) b (off + m) (xs.drop m) :=
  ⟨by rw [List.length_drop, h.len], by have := h.le; omega, by have := h.max; omega, .inl rfl,
    fun i hi => by rw [nth_drop, Nat.add_assoc]; exact h.cells (m + i) (by omega), fun x hx => h.wf x (List.mem_of_mem_drop hx)⟩

theorem SlAt.heap {w w' : World} {K : IntKind} {ao : Option Addr} {n cap b off : Nat} {xs : List Nat} (h : SlAt w K ao n cap b off xs) (e : w'.heap = w.heap) : SlAt w' K ao n cap b off xs :=
  { h with cells := fun i hi => by rw [← h.cells i hi]; simp only [World.cell?, e] }

/-- A callee that draws nothing, in the second of two regions that draw. -/
theorem quiet_same2 {P : Program} {f : FuncId} {args : Array Value} {w : World} {p n : Nat} {v : Value}
    (h : Calls P f args (w.drewN (p + n)) fun e w' => e = .returned v ∧ w' = w.drewN (p + n)) : Calls P f args (w.drewN (p + n)) fun e w'' => e = .returned v ∧ ∃ m, w'' = w.drewN (p + m) :=
  h.mono fun _ _ ⟨he, hm⟩ => ⟨he, n, hm⟩

/-- A part of a number without zeros at its top: what norm returns of it. -/
theorem norm_part {w : World} {ao : Option Addr} {n cap b off : Nat} {xs : List Nat} (hs : SlAt w .u32 ao n cap b off xs) (hd : Dg 4294967296 xs) :
    ∃ t, Hid (∀ W : World, W.heap = w.heap → Calls Try.prog 126 #[.slice ao n cap] W (fun e w' => e = .returned (.slice ao t t) ∧ w' = W)) ∧ IsN w (.slice ao t t) (val 4294967296 xs) := by
  refine ⟨(trim xs).length, fun W hW => norm_val (hs.heap hW), trim xs, ?_, hd.can, val_trim _ _⟩
  have ht := trim_spec xs
  rw [hs.len] at ht
  have := (hs.cut ht.1).sl
  rw [← ht.2] at this
  exact this

theorem kara {a0 a1 b0 b1 P : Nat} : a0 * b0 + ((a0 + a1) * (b0 + b1) - a0 * b0 - a1 * b1) * P + a1 * b1 * (P * P) = (a0 + P * a1) * (b0 + P * b1) := by
  have e1 : (a0 + a1) * (b0 + b1) - a0 * b0 - a1 * b1 = a0 * b1 + a1 * b0 := by
    rw [Nat.add_mul, Nat.mul_add, Nat.mul_add]; omega
  rw [e1, Nat.add_mul (a0 * b1), Nat.mul_add (a0 + P * a1), Nat.add_mul a0 _ b0, Nat.add_mul a0 _ (P * b1)]
  have e2 : a0 * (P * b1) = a0 * b1 * P := by simp only [Nat.mul_comm, Nat.mul_left_comm]
  have e3 : P * a1 * b0 = a1 * b0 * P := by simp only [Nat.mul_comm, Nat.mul_left_comm]
  have e4 : P * a1 * (P * b1) = a1 * b1 * (P * P) := by simp only [Nat.mul_comm, Nat.mul_left_comm]
  omega

theorem below_drew0 (w : World) (n : Nat) : Below w.heap.size w (w.drewN n) := below_drewN' (Below.refl _ _) n
theorem nextB {w w1 w2 : World} (h : Below w.heap.size w w1) (k : Below w1.heap.size w1 w2) : Below w.heap.size w w2 := h.trans (k.mono h.size)

/-- The parts' bounds. -/
structure KBd (m n a0 a1 b0 b1 L f : Nat) : Prop where
  a0L : a0 < P2 L
  a1L : a1 < P2 L
  b0L : b0 < P2 L
  b1L : b1 < P2 L
  saL : a0 + a1 < P2 L
  sbL : b0 + b1 < P2 L
  f0 : a0 < P2 (32 * f) ∨ b0 < P2 (32 * f)
  f1 : a1 < P2 (32 * f) ∨ b1 < P2 (32 * f)
  fs : a0 + a1 < P2 (32 * f) ∨ b0 + b1 < P2 (32 * f)

theorem part_lt {xs : List Nat} (hd : Can 4294967296 xs) {h f : Nat} (h1 : 24 ≤ h) (h2 : 2 * h ≤ xs.length + 1) (hv : val 4294967296 xs < P2 (32 * (f + 1))) :
    val 4294967296 (xs.take h) < P2 (32 * f) ∧ val 4294967296 (xs.drop h) < P2 (32 * f) ∧ val 4294967296 (xs.take h) + val 4294967296 (xs.drop h) < P2 (32 * f) := by
  have hl := hd.len_P2 hv
  have e0 := val_lt (hd.1.take h)
  have e1 := val_lt (hd.1.drop h)
  rw [P2_32, List.length_take] at e0
  rw [P2_32, List.length_drop] at e1
  have e0' := lt_P2_mono e0 (show 32 * min h xs.length ≤ 32 * f - 1 by omega)
  have e1' := lt_P2_mono e1 (show 32 * (xs.length - h) ≤ 32 * f - 1 by omega)
  have hs := add_lt_P2 e0' e1'
  rw [show 32 * f - 1 + 1 = 32 * f by omega] at hs
  exact ⟨lt_P2_mono e0' (by omega), lt_P2_mono e1' (by omega), hs⟩

theorem sum_le {a0 a1 m P : Nat} (hP : 0 < P) (h : m = a0 + P * a1) : a0 + a1 ≤ m := by
  have := Nat.le_mul_of_pos_left a1 hP
  omega

/-- The contract, for numbers of which one has at most f words. -/
def MulUpto (f : Nat) : Prop := ∀ (w : World) (va vb : Value) (m n : Nat) (_ : IsN w va m) (_ : IsN w vb n) (L : Nat) (_ : L ≤ 4294967296) (_ : m < P2 L) (_ : n < P2 L) (_ : m < P2 (32 * f) ∨ n < P2 (32 * f)),
    Calls Try.prog 100 #[va, vb] w (RetN w (m * n))

set_option maxHeartbeats 1000000 in
theorem mul_step (f : Nat) (IH0 : 0 < f → MulUpto f) : MulUpto (f + 1) := by
  intro w va vb m n ha hb L hL hm hn hf
  obtain ⟨xs, sa, hca, hva⟩ := ha
  obtain ⟨ys, sb, hcb, hvb⟩ := hb
  have l1 := hca.len_P2 (by rw [hva]; exact hm)
  have l2 := hcb.len_P2 (by rw [hvb]; exact hn)
  obtain ⟨ao, k, cap, b, off, rfl, hs⟩ := sa
  obtain ⟨ao2, k2, cap2, b2, off2, rfl, hs2⟩ := sb
  rw [hs.len] at l1
  rw [hs2.len] at l2
  have hle := hs.le
  have hmax := hs.max
  have hle2 := hs2.le
  have hmax2 := hs2.max
  have HVA := Lib.hid hva
  have HVB := Lib.hid hvb
  clear hva hvb
  by_cases hsmall : k < 48 ∨ k2 < 48
  · have hcall := mulPlain_any (w := w) (va := .slice ao k cap) (vb := .slice ao2 k2 cap2) (m := m) (n := n) ⟨xs, hs.sl, hca, HVA.out⟩ ⟨ys, hs2.sl, hcb, HVB.out⟩ L (by omega) hm hn
    have HC := Lib.hid hcall
    clear hcall
    by_cases hcmp : k2 < k
    all_goals
      go_enter Try.func100, Try.ntmps100
      go_wp2_with fail
      refine HC.out.mono ?_
      rintro e w1 ⟨v, rfl, hv, hb⟩
      go_wp2
      go_ret
      exact ⟨_, rfl, hv, hb⟩
  · obtain ⟨h, hh⟩ : ∃ h, h = (min k k2 + 1) / 2 := ⟨_, rfl⟩
    have hh1 : 24 ≤ h := by omega
    have hh2 : h < k := by omega
    have hh3 : h < k2 := by omega
    have hh4 : 2 * h ≤ k + 1 := by omega
    have hh5 : 2 * h ≤ k2 + 1 := by omega
    have IH : MulUpto f := IH0 (by
      rcases hf with hf | hf
      · have := hca.len_P2 (by rw [HVA.out]; exact hf)
        rw [hs.len] at this; omega
      · have := hcb.len_P2 (by rw [HVB.out]; exact hf)
        rw [hs2.len] at this; omega)
    clear IH0
    obtain rfl := hs.addr.resolve_right (by omega)
    obtain rfl := hs2.addr.resolve_right (by omega)
    have HH := Lib.hid hh
    clear hh
    by_cases hcmp : k2 < k
    all_goals
      go_enter Try.func100, Try.ntmps100
      go_wp2_with fail
      first | rw [show ((k2 : Int) + 1) / 2 = (h : Int) by have := HH.out; omega] | rw [show ((k : Int) + 1) / 2 = (h : Int) by have := HH.out; omega]
      obtain ⟨t0, N0, i0⟩ := norm_part (hs.head (m := h) (by omega)) (hca.1.take h)
      obtain ⟨t1, N1, i1⟩ := norm_part (hs.tail (m := h) (by omega)) (hca.1.drop h)
      obtain ⟨s0, M0, j0⟩ := norm_part (hs2.head (m := h) (by omega)) (hcb.1.take h)
      obtain ⟨s1, M1, j1⟩ := norm_part (hs2.tail (m := h) (by omega)) (hcb.1.drop h)
      have hma := val_take_drop 4294967296 xs h (by rw [hs.len]; omega)
      have hnb := val_take_drop 4294967296 ys h (by rw [hs2.len]; omega)
      rw [HVA.out, P2_32] at hma
      rw [HVB.out, P2_32] at hnb
      have hbd : KBd m n (val 4294967296 (xs.take h)) (val 4294967296 (xs.drop h)) (val 4294967296 (ys.take h)) (val 4294967296 (ys.drop h)) L f := by
        have q1 := sum_le (P2_pos _) hma
        have q2 := sum_le (P2_pos _) hnb
        have F : (val 4294967296 (xs.take h) < P2 (32 * f) ∧ val 4294967296 (xs.drop h) < P2 (32 * f) ∧ val 4294967296 (xs.take h) + val 4294967296 (xs.drop h) < P2 (32 * f)) ∨
            (val 4294967296 (ys.take h) < P2 (32 * f) ∧ val 4294967296 (ys.drop h) < P2 (32 * f) ∧ val 4294967296 (ys.take h) + val 4294967296 (ys.drop h) < P2 (32 * f)) := by
          rcases hf with hf | hf
          · exact .inl (part_lt hca hh1 (by rw [hs.len]; exact hh4) (by rw [HVA.out]; exact hf))
          · exact .inr (part_lt hcb hh1 (by rw [hs2.len]; exact hh5) (by rw [HVB.out]; exact hf))
        refine ⟨by omega, by omega, by omega, by omega, by omega, by omega, F.imp (·.1) (·.1), F.imp (·.2.1) (·.2.1), F.imp (·.2.2) (·.2.2)⟩
      clear hf HVA HVB hca hcb
      have HMA := Lib.hid hma
      have HNB := Lib.hid hnb
      clear hma hnb
      generalize val 4294967296 (xs.take h) = a0 at *
      generalize val 4294967296 (xs.drop h) = a1 at *
      generalize val 4294967296 (ys.take h) = b0 at *
      generalize val 4294967296 (ys.drop h) = b1 at *
      go_quiet ((first | (go_at_call 126; (with_reducible refine Calls.quiet_of_same (N0.out _ ?_)); rfl) | (go_at_call 126; (with_reducible refine Calls.quiet_of_same (N1.out _ ?_)); rfl)))
      go_wp2_with fail
      go_quiet ((first | (go_at_call 126; (with_reducible refine quiet_same2 (M0.out _ ?_)); rfl) | (go_at_call 126; (with_reducible refine quiet_same2 (M1.out _ ?_)); rfl)))
      go_wp2_with fail
      refine (IH _ _ _ a0 b0 (i0.below (below_drew0 _ _)) (j0.below (below_drew0 _ _)) L hL hbd.a0L hbd.b0L hbd.f0).mono ?_
      rintro e w1 ⟨vl, rfl, il, bl⟩
      have B1 := nextB (below_drew0 _ _) bl
      clear bl
      go_wp2_with fail
      refine (IH _ _ _ a1 b1 (i1.below B1) (j1.below B1) L hL hbd.a1L hbd.b1L hbd.f1).mono ?_
      rintro e w2 ⟨vh, rfl, ih, bh⟩
      have B2 := nextB B1 bh
      have il2 := il.below bh
      clear bh il B1
      go_wp2_with fail
      refine (add_any (i0.below B2) (i1.below B2) L (by omega) hbd.a0L hbd.a1L).mono ?_
      rintro e w3 ⟨vsa, rfl, isa, b3⟩
      have B3 := nextB B2 b3
      have il3 := il2.below b3
      have ih3 := ih.below b3
      clear b3 il2 ih B2
      go_wp2_with fail
      refine (add_any (j0.below B3) (j1.below B3) L (by omega) hbd.b0L hbd.b1L).mono ?_
      rintro e w4 ⟨vsb, rfl, isb, b4⟩
      have B4 := nextB B3 b4
      have il4 := il3.below b4
      have ih4 := ih3.below b4
      have isa4 := isa.below b4
      clear b4 il3 ih3 B3 isa
      go_wp2_with fail
      refine (IH _ _ _ (a0 + a1) (b0 + b1) isa4 isb L hL hbd.saL hbd.sbL hbd.fs).mono ?_
      rintro e w5 ⟨vp, rfl, ip, b5⟩
      have B5 := nextB B4 b5
      have il5 := il4.below b5
      have ih5 := ih4.below b5
      clear b5 il4 ih4 B4 isa4 isb
      have q0 : a0 * b0 + a1 * b1 ≤ (a0 + a1) * (b0 + b1) := by rw [Nat.add_mul, Nat.mul_add, Nat.mul_add]; omega
      have q1 := mul_lt_P2 hbd.saL hbd.sbL
      go_wp2_with fail
      refine (sub_any ip il5 (L + L) (by omega) q1 (by omega)).mono ?_
      rintro e w6 ⟨vm, rfl, im, b6⟩
      have B6 := nextB B5 b6
      have il6 := il5.below b6
      have ih6 := ih5.below b6
      clear b6 il5 ih5 B5 ip
      go_wp2_with fail
      refine (sub_any im ih6 (L + L) (by omega) (by omega) (by omega)).mono ?_
      rintro e w7 ⟨vd, rfl, idd, b7⟩
      have B7 := nextB B6 b7
      have il7 := il6.below b7
      have ih7 := ih6.below b7
      clear b7 il6 ih6 B6 im
      have hk := kara (a0 := a0) (a1 := a1) (b0 := b0) (b1 := b1) (P := P2 (32 * h))
      rw [← HMA.out, ← HNB.out] at hk
      have q2 := mul_lt_P2 hm hn
      rw [← hk] at q2
      have HK := Lib.hid hk
      clear hk hbd HMA HNB
      generalize (a0 + a1) * (b0 + b1) - a0 * b0 - a1 * b1 = D at *
      generalize a0 * b0 = lo at *
      generalize a1 * b1 = hi at *
      have q3 : D ≤ D * P2 (32 * h) := Nat.le_mul_of_pos_right _ (P2_pos _)
      have q4 : hi ≤ hi * (P2 (32 * h) * P2 (32 * h)) := Nat.le_mul_of_pos_right _ (Nat.mul_pos (P2_pos _) (P2_pos _))
      go_wp2_with fail
      refine (up_any idd (h : Int) (by omega) (by omega) (L + L) (by omega) (by omega)).mono ?_
      rintro e w8 ⟨vu, rfl, iu, b8⟩
      rw [Int.toNat_natCast] at iu
      have B8 := nextB B7 b8
      have il8 := il7.below b8
      have ih8 := ih7.below b8
      clear b8 il7 ih7 B7 idd
      go_wp2_with fail
      refine (add_any il8 iu (L + L) (by omega) (by omega) (by omega)).mono ?_
      rintro e w9 ⟨vt, rfl, it, b9⟩
      have B9 := nextB B8 b9
      have ih9 := ih8.below b9
      clear b9 il8 ih8 B8 iu
      go_wp2_with fail
      refine (up_any ih9 (2 * (h : Int)) (by omega) (by omega) (L + L) (by omega) (by omega)).mono ?_
      rintro e w10 ⟨vx, rfl, ix, b10⟩
      rw [show (2 * (h : Int)).toNat = h + h by omega, Nat.mul_add 32 h h, P2_add] at ix
      have B10 := nextB B9 b10
      have it10 := it.below b10
      clear b10 it ih9 B9
      go_wp2_with fail
      refine (add_any it10 ix (L + L) (by omega) (by omega) (by omega)).mono ?_
      rintro e w11 ⟨vy, rfl, iy, b11⟩
      rw [HK.out] at iy
      have B11 := nextB B10 b11
      go_wp2
      go_ret
      exact ⟨_, rfl, iy, B11⟩

theorem mul_all (f : Nat) : MulUpto f := by
  induction f with
  | zero =>
    intro w va vb m n ha hb L hL hm hn hf
    have h0 : m < P2 (32 * (0 + 1)) ∨ n < P2 (32 * (0 + 1)) := hf.imp (fun h => lt_P2_mono h (by omega)) (fun h => lt_P2_mono h (by omega))
    exact mul_step 0 (fun h => absurd h (Nat.lt_irrefl 0)) w va vb m n ha hb L hL hm hn h0
  | succ f ih => exact mul_step f (fun _ => ih)

theorem mul_any {w : World} {va vb : Value} {m n : Nat} (ha : IsN w va m) (hb : IsN w vb n) (L : Nat) (hL : L ≤ 4294967296) (hm : m < P2 L) (hn : n < P2 L) :
    Calls Try.prog 100 #[va, vb] w (RetN w (m * n)) :=
  mul_all L w va vb m n ha hb L hL hm hn (.inl (lt_P2_mono hm (by omega)))
#print axioms mul_any
end Go.Proofs.Ytppbhjhbaknidaa
