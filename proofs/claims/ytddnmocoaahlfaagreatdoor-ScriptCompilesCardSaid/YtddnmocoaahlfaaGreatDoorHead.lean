/-
  The head of the translated program read word by word: its third word is the cut's, so the program may be entered, no list of its head is final, and its make is the cut. No condition. (A helper for the rows of this seat: the closed facts that read the head are proved here once, cheaply.)
-/
import Derived.Test.YtddnmocoaahlfaaGreatDoorChecked
import GoSem.ClaimJoined
import Derived.KernelRfl
import Derived.JoinedOf
set_option linter.unusedVariables false
set_option linter.unusedSimpArgs false
namespace Go.Proofs.YtddnmocoaahlfaaGreatDoor
namespace Head
def nm (l : List Nat) : List Char := l.map Char.ofNat
theorem words_snoc (w : List Char) (h : ∀ c ∈ w, c ≠ Char.ofNat 32) (r : List Char) : wordsSigns (w ++ Char.ofNat 32 :: r) = w :: wordsSigns r := by
  induction w with
  | nil => rfl
  | cons a w ih =>
    have hw := ih (fun c hc => h c (List.mem_cons_of_mem _ hc))
    have ha : a ≠ Char.ofNat 32 := h a (List.mem_cons_self ..)
    rw [List.cons_append]
    rw [wordsSigns, hw]
    exact fun e => ha e
def w1 : List Nat := [104, 97, 114, 110, 101, 115, 115]
def w2 : List Nat := [49, 52, 100, 51, 48, 51, 100, 97, 99, 48, 55, 101, 98, 102, 49, 102, 55, 101, 98, 56, 51, 48, 100, 99, 56, 100, 52, 101, 52, 57, 48, 100, 102, 100, 50, 54, 101, 97, 98, 101, 51, 99, 52, 100, 53, 56, 98, 101, 55, 99, 54, 52, 102, 57, 98, 55, 101, 57, 55, 51, 101, 99, 50, 48]
def w3 : List Nat := [99, 117, 116]
def w4 : List Nat := [97, 116, 32, 103, 117, 105, 108, 108, 111, 99, 104, 101, 47, 103, 117, 105, 108, 108, 111, 99, 104, 101, 108, 97, 119, 49, 48, 46, 83, 99, 114, 105, 112, 116, 66, 97, 99, 107, 32, 103, 117, 105, 108, 108, 111, 99, 104, 101, 47, 103, 117, 105, 108, 108, 111, 99, 104, 101, 108, 97, 119, 49, 48, 46, 83, 99, 114, 105, 112, 116, 79, 110, 108, 121, 32, 103, 117, 105, 108, 108, 111, 99, 104, 101, 47, 103, 117, 105, 108, 108, 111, 99, 104, 101, 108, 97, 119, 49, 48, 46, 83, 99, 114, 105, 112, 116, 84, 101, 120, 116, 115, 32, 103, 117, 105, 108, 108, 111, 99, 104, 101, 47, 103, 117, 105, 108, 108, 111, 99, 104, 101, 108, 97, 119, 49, 48, 46, 83, 99, 114, 105, 112, 116, 67, 111, 109, 112, 105, 108, 101, 115, 32, 103, 117, 105, 108, 108, 111, 99, 104, 101, 47, 103, 117, 105, 108, 108, 111, 99, 104, 101, 108, 97, 119, 49, 48, 46, 83, 99, 114, 105, 112, 116, 67, 111, 109, 112, 105, 108, 101, 100, 32, 103, 117, 105, 108, 108, 111, 99, 104, 101, 47, 103, 117, 105, 108, 108, 111, 99, 104, 101, 108, 97, 119, 49, 48, 46, 83, 99, 114, 105, 112, 116, 85, 110, 114, 111, 108, 108, 101, 100, 32, 103, 117, 105, 108, 108, 111, 99, 104, 101, 47, 103, 117, 105, 108, 108, 111, 99, 104, 101, 108, 97, 119, 49, 48, 46, 83, 99, 114, 105, 112, 116, 83, 112, 97, 99, 101, 100, 32, 103, 117, 105, 108, 108, 111, 99, 104, 101, 47, 103, 117, 105, 108, 108, 111, 99, 104, 101, 108, 97, 119, 49, 48, 46, 83, 99, 114, 105, 112, 116, 69, 118, 97, 108, 115, 32, 103, 117, 105, 108, 108, 111, 99, 104, 101, 47, 103, 117, 105, 108, 108, 111, 99, 104, 101, 108, 97, 119, 49, 48, 46, 83, 99, 114, 105, 112, 116, 67, 104, 111, 105, 99, 101, 115, 32, 103, 117, 105, 108, 108, 111, 99, 104, 101, 47, 103, 117, 105, 108, 108, 111, 99, 104, 101, 108, 97, 119, 49, 48, 46, 83, 99, 114, 105, 112, 116, 86, 97, 108, 117, 101, 115, 32, 103, 117, 105, 108, 108, 111, 99, 104, 101, 47, 103, 117, 105, 108, 108, 111, 99, 104, 101, 108, 97, 119, 49, 48, 46, 83, 99, 114, 105, 112, 116, 80, 97, 114, 115, 101, 115, 32, 103, 117, 105, 108, 108, 111, 99, 104, 101, 47, 103, 117, 105, 108, 108, 111, 99, 104, 101, 108, 97, 119, 49, 48, 46, 83, 99, 114, 105, 112, 116, 69, 118, 101, 110, 116, 115, 32, 103, 117, 105, 108, 108, 111, 99, 104, 101, 47, 103, 117, 105, 108, 108, 111, 99, 104, 101, 108, 97, 119, 49, 48, 46, 83, 99, 114, 105, 112, 116, 80, 108, 97, 110, 116, 115, 32, 103, 117, 105, 108, 108, 111, 99, 104, 101, 47, 103, 117, 105, 108, 108, 111, 99, 104, 101, 108, 97, 119, 49, 48, 46, 83, 99, 114, 105, 112, 116, 82, 101, 112, 111, 114, 116, 115, 32, 103, 117, 105, 108, 108, 111, 99, 104, 101, 47, 103, 117, 105, 108, 108, 111, 99, 104, 101, 108, 97, 119, 49, 48, 46, 83, 99, 114, 105, 112, 116, 80, 108, 97, 110, 116, 84, 101, 120, 116, 115]
theorem io : Tryz.prog.initOrder = String.ofList (nm w1 ++ Char.ofNat 32 :: (nm w2 ++ Char.ofNat 32 :: (nm w3 ++ Char.ofNat 32 :: nm w4))) := by kernel_rfl
theorem spelt (s : String) (l : List Nat) (h : s = String.ofList (nm l)) : s.toList = nm l := by
  rw [h, String.toList_ofList]
theorem cutIs : "cut".toList = nm w3 := spelt _ _ (by kernel_rfl)
theorem harnessIs : "harness".toList = nm w1 := spelt _ _ (by kernel_rfl)
theorem parts (a b : List Nat) (s : String) (hs : s = String.ofList (nm b)) (h : (nm a == nm b) = false) : (nm a == s.toList) = false := by
  rw [spelt s b hs]; exact h
theorem words : ∃ rest, behindMainWord (wordsSigns Tryz.prog.initOrder.toList) = nm w3 :: rest := by
  refine ⟨wordsSigns (nm w4), ?_⟩
  have e : ((nm w1 == "harness".toList || nm w1 == "ownmain".toList) && isSumSigns (nm w2)) = true := by
    have : isSumSigns (nm w2) = true := by decide +kernel
    rw [this, harnessIs, beq_self_eq_true, Bool.true_or, Bool.true_and]
  rw [io, String.toList_ofList, words_snoc _ (by decide +kernel), words_snoc _ (by decide +kernel), words_snoc _ (by decide +kernel)]
  simp only [behindMainWord]
  rw [if_pos e]
theorem no0 : (nm w3 == "finals".toList) = false := parts _ [102, 105, 110, 97, 108, 115] _ (by kernel_rfl) (by decide +kernel)
theorem no1 : (nm w3 == "reflectrows".toList) = false := parts _ [114, 101, 102, 108, 101, 99, 116, 114, 111, 119, 115] _ (by kernel_rfl) (by decide +kernel)
theorem no2 : (nm w3 == "leanrows".toList) = false := parts _ [108, 101, 97, 110, 114, 111, 119, 115] _ (by kernel_rfl) (by decide +kernel)
theorem no3 : (nm w3 == "onebuild".toList) = false := parts _ [111, 110, 101, 98, 117, 105, 108, 100] _ (by kernel_rfl) (by decide +kernel)
theorem no4 : (nm w3 == "publicsums".toList) = false := parts _ [112, 117, 98, 108, 105, 99, 115, 117, 109, 115] _ (by kernel_rfl) (by decide +kernel)
theorem no5 : (nm w3 == "eqguard".toList) = false := parts _ [101, 113, 103, 117, 97, 114, 100] _ (by kernel_rfl) (by decide +kernel)
theorem no6 : (nm w3 == "ownunsafe".toList) = false := parts _ [111, 119, 110, 117, 110, 115, 97, 102, 101] _ (by kernel_rfl) (by decide +kernel)
theorem no7 : (nm w3 == "libbeside".toList) = false := parts _ [108, 105, 98, 98, 101, 115, 105, 100, 101] _ (by kernel_rfl) (by decide +kernel)
theorem no8 : (nm w3 == "ownbeside".toList) = false := parts _ [111, 119, 110, 98, 101, 115, 105, 100, 101] _ (by kernel_rfl) (by decide +kernel)
theorem no9 : (nm w3 == "reflbeside".toList) = false := parts _ [114, 101, 102, 108, 98, 101, 115, 105, 100, 101] _ (by kernel_rfl) (by decide +kernel)
theorem no10 : (nm w3 == "aliases".toList) = false := parts _ [97, 108, 105, 97, 115, 101, 115] _ (by kernel_rfl) (by decide +kernel)
theorem no11 : (nm w3 == "afterinit".toList) = false := parts _ [97, 102, 116, 101, 114, 105, 110, 105, 116] _ (by kernel_rfl) (by decide +kernel)
theorem no12 : (nm w3 == "crcplain".toList) = false := parts _ [99, 114, 99, 112, 108, 97, 105, 110] _ (by kernel_rfl) (by decide +kernel)
theorem no13 : (nm w3 == "roadunsafe".toList) = false := parts _ [114, 111, 97, 100, 117, 110, 115, 97, 102, 101] _ (by kernel_rfl) (by decide +kernel)
theorem no14 : (nm w3 == "fmthandon".toList) = false := parts _ [102, 109, 116, 104, 97, 110, 100, 111, 110] _ (by kernel_rfl) (by decide +kernel)
theorem no15 : (nm w3 == "gc".toList) = false := parts _ [103, 99] _ (by kernel_rfl) (by decide +kernel)
theorem no16 : (nm w3 == "spec".toList) = false := parts _ [115, 112, 101, 99] _ (by kernel_rfl) (by decide +kernel)
theorem no17 : (nm w3 == "carried".toList) = false := parts _ [99, 97, 114, 114, 105, 101, 100] _ (by kernel_rfl) (by decide +kernel)
theorem strip (rest : List (List Char)) : stripLifts liftWords (nm w3 :: rest) = ([], nm w3 :: rest) := by
  simp only [stripLifts, liftWords, no0, no1, no2, no3, no4, no5, no6, no7, no8, no9, no10, no11, no12, no13, no14, Bool.false_eq_true, if_false]
theorem laysLater : Tryz.prog.laysLater = false := by kernel_rfl
theorem bearsReflect : Tryz.prog.bearsReflect = false := by kernel_rfl
theorem doorFits : Tryz.prog.doorFits [] = true := by kernel_rfl
theorem mayEnter_of {P : Program} {c : List Char} {rest : List (List Char)} (h : behindMainWord (wordsSigns P.initOrder.toList) = c :: rest)
    (hs : stripLifts liftWords (c :: rest) = ([], c :: rest)) (h3 : (some c == some "cut".toList) = true)
    (e1 : P.laysLater = false) (e2 : P.bearsReflect = false) (e3 : P.doorFits [] = true) : P.mayEnter = true := by
  unfold Program.mayEnter
  rw [h]
  generalize "cut".toList = C at h3 ⊢
  generalize "gc".toList = G
  generalize "spec".toList = S
  generalize "stop".toList = T
  generalize "carried".toList = D
  simp [hs, h3, e1, e2, e3] at *
theorem lifts_of {P : Program} {c : List Char} {rest : List (List Char)} (h : behindMainWord (wordsSigns P.initOrder.toList) = c :: rest)
    (hs : stripLifts liftWords (c :: rest) = ([], c :: rest)) : P.headLifts = [] := by
  unfold Program.headLifts
  rw [h, hs]
  generalize "cut".toList = C
  simp
theorem liftsFinal_of {P : Program} {c : List Char} {rest : List (List Char)} (h : behindMainWord (wordsSigns P.initOrder.toList) = c :: rest)
    (hl : P.headLifts = []) (h3 : (c == "carried".toList) = false) : P.liftsFinal = false := by
  unfold Program.liftsFinal
  rw [h, hl]
  generalize "carried".toList = D at h3 ⊢
  generalize "gc".toList = G
  generalize "cut".toList = C
  simp at h3
  simp [h3]
theorem make_of {P : Program} {c : List Char} {rest : List (List Char)} (h : behindMainWord (wordsSigns P.initOrder.toList) = c :: rest)
    (h1 : (c == "gc".toList) = false) (h2 : (c == "spec".toList) = false) (h3 : (c == "cut".toList) = true) : P.make = some .cut := by
  unfold Program.make
  rw [h]
  generalize "cut".toList = C at h3 ⊢
  generalize "gc".toList = G at h1 ⊢
  generalize "spec".toList = S at h2 ⊢
  generalize "carried".toList = D
  generalize "finals".toList = F
  simp only [h1, h2, h3, Bool.or_self, Bool.true_or, if_true, Bool.false_eq_true, if_false]
theorem isCut : (nm w3 == "cut".toList) = true := by rw [cutIs]; exact beq_self_eq_true _
theorem mayEnter : Tryz.prog.mayEnter = true := by
  obtain ⟨rest, h⟩ := words
  exact mayEnter_of h (strip rest) (by rw [← isCut]; rfl) laysLater bearsReflect doorFits
theorem lifts : Tryz.prog.headLifts = [] := by
  obtain ⟨rest, h⟩ := words
  exact lifts_of h (strip rest)
theorem liftsFinal : Tryz.prog.liftsFinal = false := by
  obtain ⟨rest, h⟩ := words
  exact liftsFinal_of h lifts no17
theorem make : Tryz.prog.make = some .cut := by
  obtain ⟨rest, h⟩ := words
  exact make_of h no15 no16 isCut
def factsBut (P : Program) (f : FuncId) (fn : Func) (s : ChangeSpec) (c : OpenClaim) : Bool :=
      (c.wf (OpenSpec.ofChange s) && laidOutB P && mapsRowed P &&
      fn.params.all (P.readableRec ·) && namedTie P c.named s.vars &&
      (c.stops == []) && (P.stops == []) && (c.knobs == []) && (P.stopKnobs == []) &&
      (c.inPlace == P.inPlace f) && (c.unfollowed == P.unfollowed f) && (c.recurses == P.recurses f) && (c.named == P.varsNamed f) &&
      (c.maps == (fn.params.toList ++ s.plain.varTypes P).any (P.mapsRec ·)) && (c.ifaces == (fn.params.toList ++ s.plain.varTypes P).any (P.ifacesRec ·)) && (c.mapsOut == P.mapsAmong fn.resultTypes.toList) &&
      (c.loops == (fn.params.toList ++ s.plain.varTypes P).any (P.loopsFrom ·)) && (c.wideKeys == (fn.params.toList ++ s.plain.varTypes P ++ fn.resultTypes.toList).any (P.wideKeysFrom ·)) &&
      s.vars.all (P.varReadable ·) && fn.resultTypes.all (fun t => P.readableRec t && decide (t < P.types.size)) && (c.ifacesOut == fn.resultTypes.toList.any (P.ifacesRec ·)) && (c.loopsOut == fn.resultTypes.toList.any (P.loopsFrom ·)) && (c.plainKeys == P.plainKeys) && c.shortTexts.isNone && P.stopsHeard && (c.kinds == (if c.domain.isEmpty then [] else fn.params.toList.map fun t => match P.underlying t with | some (.int k) => some k | _ => none)) && (c.pinned == c.pinnedBy) &&
      (c.veiled == (fn.params.toList ++ s.plain.varTypes P ++ fn.resultTypes.toList).any (P.veiledRec ·)) && c.veiledFits P fn.params.toList (fn.params.toList ++ s.plain.varTypes P ++ fn.resultTypes.toList))
theorem facts_of {P : Program} (hme : P.mayEnter = true) (hlf : P.liftsFinal = false) (hmk : P.make = some .cut) {f : FuncId} {fn : Func} {s : ChangeSpec} {c : OpenClaim} (hm : c.make = .cut) (hl : c.lifted = false)
    (h : factsBut P f fn s c = true) :
    joinedFacts P f fn s c = true := by
  unfold factsBut at h
  unfold joinedFacts
  rw [hme, hlf, hmk, hm, hl, show (some Make.cut == some Make.cut) = true from by decide, show (false == false) = true from rfl, Bool.and_true, Bool.and_true, Bool.and_true]
  exact h
theorem facts {f : FuncId} {fn : Func} {s : ChangeSpec} {c : OpenClaim} (hm : c.make = .cut) (hl : c.lifted = false) (h : factsBut Tryz.prog f fn s c = true) : joinedFacts Tryz.prog f fn s c = true :=
  facts_of mayEnter liftsFinal make hm hl h
end Head
end Go.Proofs.YtddnmocoaahlfaaGreatDoor
