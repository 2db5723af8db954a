/-
  What a plant is in memory, and as an argument of a law. No condition.
-/
import Derived.Test.YtddnmocoaahlfaaGreatDoorY3
import Derived.Test.YtddnmocoaahlfaaGreatDoorPlt
set_option linter.unusedVariables false
set_option linter.unusedSimpArgs false

namespace Go.Proofs.YtddnmocoaahlfaaGreatDoor
open Go.ChangeShapes Go.WideShapes Go.ChangeAt Go.RowKit
/-- The plain cells of a plant: all but the row of banned strings. -/
structure PV where
  al : ByteArray
  ln : Int
  ck : Bool
  rows : Int
  cols : Int
  ream : Int
  bundle : Int
  dn : Bool
  reprint : Int
  star : Int
  opn : Int
  sheets : Int
  presses : Int
  life : Int
  plates : Int
  dry : Int
  vaults : Int
  blocks : Int
/-- A plant's cells. -/
abbrev PV.cells (p : PV) (bv : Value) : Array Value := #[.string p.al, .int .i64 p.ln, bv, .bool p.ck, .int .i64 p.rows, .int .i64 p.cols, .int .i64 p.ream, .int .i64 p.bundle, .bool p.dn, .int .i64 p.reprint, .int .i64 p.star, .int .i64 p.opn, .int .i64 p.sheets, .int .i64 p.presses, .int .i64 p.life, .int .i64 p.plates, .int .i64 p.dry, .int .i64 p.vaults, .int .i64 p.blocks]
/-- The plant of the cells and of the banned strings. -/
def PV.pl (p : PV) (bs : List (List UInt8)) : Pl := ⟨txt p.al, p.ln, bs, p.ck, p.rows, p.cols, p.ream, p.bundle, p.dn, p.reprint, p.star, p.opn, p.sheets, p.presses, p.life, p.plates, p.dry, p.vaults, p.blocks⟩
def PV.zero : PV := ⟨⟨#[]⟩, 0, false, 0, 0, 0, 0, false, 0, 0, 0, 0, 0, 0, 0, 0, 0, 0⟩
theorem PV.pl_inj {p q : PV} {bs cs : List (List UInt8)} (h : p.pl bs = q.pl cs) : p = q ∧ bs = cs := by
  obtain ⟨a1, a2, a3, a4, a5, a6, a7, a8, a9, a10, a11, a12, a13, a14, a15, a16, a17, a18⟩ := p
  obtain ⟨b1, b2, b3, b4, b5, b6, b7, b8, b9, b10, b11, b12, b13, b14, b15, b16, b17, b18⟩ := q
  unfold PV.pl at h
  simp only [Pl.mk.injEq] at h
  obtain ⟨h1, rfl, rfl, rfl, rfl, rfl, rfl, rfl, rfl, rfl, rfl, rfl, rfl, rfl, rfl, rfl, rfl, rfl, rfl⟩ := h
  have : a1 = b1 := by
    have h2 : a1.data = b1.data := Array.toList_inj.1 h1
    cases a1; cases b1; simp only at h2; rw [h2]
  subst this
  exact ⟨rfl, rfl⟩
variable {H : Type} {enc : TypeId × Value → H}
set_option maxRecDepth 100000 in
theorem plant_arg {W : World} {r : Reach} {bs : Nat} {v : Value} {dd : DataW H} {p : List MemPlace} (hv : Value.okWide Tryz.prog W r bs 35 v) (h : DataW.Trod enc Tryz.prog W 0 (fun _ => true) true 35 v dd p) :
    ∃ (q : PV) (bv : Value) (ss : List ByteArray), v = .agg (q.cells bv) ∧ SRw W bv ss ∧ (∀ s ∈ ss, s.size ≤ maxLen) ∧ ss.length ≤ maxLen ∧ q.al.size ≤ maxLen ∧ ∀ n ∈ (q.pl (ss.map txt)).ints, I64 n := by
  obtain ⟨cs, rfl, hcs⟩ := okWide_struct Tryz.underlying35 hv
  obtain ⟨fuel, hf⟩ := h
  have hn : cs.size = 19 := hcs.trans (by kernel_rfl)
  obtain ⟨c0, c1, c2, c3, c4, c5, c6, c7, c8, c9, c10, c11, c12, c13, c14, c15, c16, c17, c18, rfl⟩ : ∃ c0 c1 c2 c3 c4 c5 c6 c7 c8 c9 c10 c11 c12 c13 c14 c15 c16 c17 c18, cs = #[c0, c1, c2, c3, c4, c5, c6, c7, c8, c9, c10, c11, c12, c13, c14, c15, c16, c17, c18] := by
    obtain ⟨l⟩ := cs
    match l, hn with
    | [c0, c1, c2, c3, c4, c5, c6, c7, c8, c9, c10, c11, c12, c13, c14, c15, c16, c17, c18], _ => exact ⟨c0, c1, c2, c3, c4, c5, c6, c7, c8, c9, c10, c11, c12, c13, c14, c15, c16, c17, c18, rfl⟩
  have s3 : Tryz.prog.cellsOf 3 = 1 := by kernel_rfl
  have s4 : Tryz.prog.cellsOf 4 = 1 := by kernel_rfl
  have s9 : Tryz.prog.cellsOf 9 = 1 := by kernel_rfl
  have s27 : Tryz.prog.cellsOf 27 = 1 := by kernel_rfl
  have s29 : Tryz.prog.cellsOf 29 = 4 := by kernel_rfl
  have s31 : Tryz.prog.cellsOf 31 = 5 := by kernel_rfl
  have s33 : Tryz.prog.cellsOf 33 = 3 := by kernel_rfl
  obtain ⟨xT, mT, _, _, _, hxlT, hflT⟩ := DataW.trod_struct Tryz.underlying35 hf
  have hxT : ∀ i, i < 10 → ∃ y, xT[i]? = some y := fun i hi => ⟨xT[i]'(by rw [hxlT]; exact hi), List.getElem?_eq_getElem _⟩
  obtain ⟨yT0, eT0⟩ := hxT 0 (by decide)
  have qT0 : DataW.trod enc Tryz.prog W 0 (fun _ => true) true mT 29 (List.take (Tryz.prog.cellsOf 29) (List.drop 0 [c0, c1, c2, c3, c4, c5, c6, c7, c8, c9, c10, c11, c12, c13, c14, c15, c16, c17, c18])) = xT[0]? := hflT 0 _ rfl
  rw [s29, eT0] at qT0
  replace qT0 : DataW.trod enc Tryz.prog W 0 (fun _ => true) true mT 29 [c0, c1, c2, c3] = some yT0 := qT0
  obtain ⟨yT1, eT1⟩ := hxT 1 (by decide)
  have qT1 : DataW.trod enc Tryz.prog W 0 (fun _ => true) true mT 31 (List.take (Tryz.prog.cellsOf 31) (List.drop 4 [c0, c1, c2, c3, c4, c5, c6, c7, c8, c9, c10, c11, c12, c13, c14, c15, c16, c17, c18])) = xT[1]? := hflT 1 _ rfl
  rw [s31, eT1] at qT1
  replace qT1 : DataW.trod enc Tryz.prog W 0 (fun _ => true) true mT 31 [c4, c5, c6, c7, c8] = some yT1 := qT1
  obtain ⟨yT2, eT2⟩ := hxT 2 (by decide)
  have qT2 : DataW.trod enc Tryz.prog W 0 (fun _ => true) true mT 33 (List.take (Tryz.prog.cellsOf 33) (List.drop 9 [c0, c1, c2, c3, c4, c5, c6, c7, c8, c9, c10, c11, c12, c13, c14, c15, c16, c17, c18])) = xT[2]? := hflT 2 _ rfl
  rw [s33, eT2] at qT2
  replace qT2 : DataW.trod enc Tryz.prog W 0 (fun _ => true) true mT 33 [c9, c10, c11] = some yT2 := qT2
  obtain ⟨yT3, eT3⟩ := hxT 3 (by decide)
  have qT3 : DataW.trod enc Tryz.prog W 0 (fun _ => true) true mT 3 (List.take (Tryz.prog.cellsOf 3) (List.drop 12 [c0, c1, c2, c3, c4, c5, c6, c7, c8, c9, c10, c11, c12, c13, c14, c15, c16, c17, c18])) = xT[3]? := hflT 3 _ rfl
  rw [s3, eT3] at qT3
  replace qT3 : DataW.trod enc Tryz.prog W 0 (fun _ => true) true mT 3 [c12] = some yT3 := qT3
  obtain ⟨yT4, eT4⟩ := hxT 4 (by decide)
  have qT4 : DataW.trod enc Tryz.prog W 0 (fun _ => true) true mT 3 (List.take (Tryz.prog.cellsOf 3) (List.drop 13 [c0, c1, c2, c3, c4, c5, c6, c7, c8, c9, c10, c11, c12, c13, c14, c15, c16, c17, c18])) = xT[4]? := hflT 4 _ rfl
  rw [s3, eT4] at qT4
  replace qT4 : DataW.trod enc Tryz.prog W 0 (fun _ => true) true mT 3 [c13] = some yT4 := qT4
  obtain ⟨yT5, eT5⟩ := hxT 5 (by decide)
  have qT5 : DataW.trod enc Tryz.prog W 0 (fun _ => true) true mT 3 (List.take (Tryz.prog.cellsOf 3) (List.drop 14 [c0, c1, c2, c3, c4, c5, c6, c7, c8, c9, c10, c11, c12, c13, c14, c15, c16, c17, c18])) = xT[5]? := hflT 5 _ rfl
  rw [s3, eT5] at qT5
  replace qT5 : DataW.trod enc Tryz.prog W 0 (fun _ => true) true mT 3 [c14] = some yT5 := qT5
  obtain ⟨yT6, eT6⟩ := hxT 6 (by decide)
  have qT6 : DataW.trod enc Tryz.prog W 0 (fun _ => true) true mT 3 (List.take (Tryz.prog.cellsOf 3) (List.drop 15 [c0, c1, c2, c3, c4, c5, c6, c7, c8, c9, c10, c11, c12, c13, c14, c15, c16, c17, c18])) = xT[6]? := hflT 6 _ rfl
  rw [s3, eT6] at qT6
  replace qT6 : DataW.trod enc Tryz.prog W 0 (fun _ => true) true mT 3 [c15] = some yT6 := qT6
  obtain ⟨yT7, eT7⟩ := hxT 7 (by decide)
  have qT7 : DataW.trod enc Tryz.prog W 0 (fun _ => true) true mT 3 (List.take (Tryz.prog.cellsOf 3) (List.drop 16 [c0, c1, c2, c3, c4, c5, c6, c7, c8, c9, c10, c11, c12, c13, c14, c15, c16, c17, c18])) = xT[7]? := hflT 7 _ rfl
  rw [s3, eT7] at qT7
  replace qT7 : DataW.trod enc Tryz.prog W 0 (fun _ => true) true mT 3 [c16] = some yT7 := qT7
  obtain ⟨yT8, eT8⟩ := hxT 8 (by decide)
  have qT8 : DataW.trod enc Tryz.prog W 0 (fun _ => true) true mT 3 (List.take (Tryz.prog.cellsOf 3) (List.drop 17 [c0, c1, c2, c3, c4, c5, c6, c7, c8, c9, c10, c11, c12, c13, c14, c15, c16, c17, c18])) = xT[8]? := hflT 8 _ rfl
  rw [s3, eT8] at qT8
  replace qT8 : DataW.trod enc Tryz.prog W 0 (fun _ => true) true mT 3 [c17] = some yT8 := qT8
  obtain ⟨yT9, eT9⟩ := hxT 9 (by decide)
  have qT9 : DataW.trod enc Tryz.prog W 0 (fun _ => true) true mT 3 (List.take (Tryz.prog.cellsOf 3) (List.drop 18 [c0, c1, c2, c3, c4, c5, c6, c7, c8, c9, c10, c11, c12, c13, c14, c15, c16, c17, c18])) = xT[9]? := hflT 9 _ rfl
  rw [s3, eT9] at qT9
  replace qT9 : DataW.trod enc Tryz.prog W 0 (fun _ => true) true mT 3 [c18] = some yT9 := qT9
  obtain ⟨xA, mA, _, _, _, hxlA, hflA⟩ := DataW.trod_struct Tryz.underlying29 qT0
  have hxA : ∀ i, i < 4 → ∃ y, xA[i]? = some y := fun i hi => ⟨xA[i]'(by rw [hxlA]; exact hi), List.getElem?_eq_getElem _⟩
  obtain ⟨yA0, eA0⟩ := hxA 0 (by decide)
  have qA0 : DataW.trod enc Tryz.prog W 0 (fun _ => true) true mA 9 (List.take (Tryz.prog.cellsOf 9) (List.drop 0 [c0, c1, c2, c3])) = xA[0]? := hflA 0 _ rfl
  rw [s9, eA0] at qA0
  replace qA0 : DataW.trod enc Tryz.prog W 0 (fun _ => true) true mA 9 [c0] = some yA0 := qA0
  obtain ⟨yA1, eA1⟩ := hxA 1 (by decide)
  have qA1 : DataW.trod enc Tryz.prog W 0 (fun _ => true) true mA 3 (List.take (Tryz.prog.cellsOf 3) (List.drop 1 [c0, c1, c2, c3])) = xA[1]? := hflA 1 _ rfl
  rw [s3, eA1] at qA1
  replace qA1 : DataW.trod enc Tryz.prog W 0 (fun _ => true) true mA 3 [c1] = some yA1 := qA1
  obtain ⟨yA2, eA2⟩ := hxA 2 (by decide)
  have qA2 : DataW.trod enc Tryz.prog W 0 (fun _ => true) true mA 27 (List.take (Tryz.prog.cellsOf 27) (List.drop 2 [c0, c1, c2, c3])) = xA[2]? := hflA 2 _ rfl
  rw [s27, eA2] at qA2
  replace qA2 : DataW.trod enc Tryz.prog W 0 (fun _ => true) true mA 27 [c2] = some yA2 := qA2
  obtain ⟨yA3, eA3⟩ := hxA 3 (by decide)
  have qA3 : DataW.trod enc Tryz.prog W 0 (fun _ => true) true mA 4 (List.take (Tryz.prog.cellsOf 4) (List.drop 3 [c0, c1, c2, c3])) = xA[3]? := hflA 3 _ rfl
  rw [s4, eA3] at qA3
  replace qA3 : DataW.trod enc Tryz.prog W 0 (fun _ => true) true mA 4 [c3] = some yA3 := qA3
  obtain ⟨xB, mB, _, _, _, hxlB, hflB⟩ := DataW.trod_struct Tryz.underlying31 qT1
  have hxB : ∀ i, i < 5 → ∃ y, xB[i]? = some y := fun i hi => ⟨xB[i]'(by rw [hxlB]; exact hi), List.getElem?_eq_getElem _⟩
  obtain ⟨yB0, eB0⟩ := hxB 0 (by decide)
  have qB0 : DataW.trod enc Tryz.prog W 0 (fun _ => true) true mB 3 (List.take (Tryz.prog.cellsOf 3) (List.drop 0 [c4, c5, c6, c7, c8])) = xB[0]? := hflB 0 _ rfl
  rw [s3, eB0] at qB0
  replace qB0 : DataW.trod enc Tryz.prog W 0 (fun _ => true) true mB 3 [c4] = some yB0 := qB0
  obtain ⟨yB1, eB1⟩ := hxB 1 (by decide)
  have qB1 : DataW.trod enc Tryz.prog W 0 (fun _ => true) true mB 3 (List.take (Tryz.prog.cellsOf 3) (List.drop 1 [c4, c5, c6, c7, c8])) = xB[1]? := hflB 1 _ rfl
  rw [s3, eB1] at qB1
  replace qB1 : DataW.trod enc Tryz.prog W 0 (fun _ => true) true mB 3 [c5] = some yB1 := qB1
  obtain ⟨yB2, eB2⟩ := hxB 2 (by decide)
  have qB2 : DataW.trod enc Tryz.prog W 0 (fun _ => true) true mB 3 (List.take (Tryz.prog.cellsOf 3) (List.drop 2 [c4, c5, c6, c7, c8])) = xB[2]? := hflB 2 _ rfl
  rw [s3, eB2] at qB2
  replace qB2 : DataW.trod enc Tryz.prog W 0 (fun _ => true) true mB 3 [c6] = some yB2 := qB2
  obtain ⟨yB3, eB3⟩ := hxB 3 (by decide)
  have qB3 : DataW.trod enc Tryz.prog W 0 (fun _ => true) true mB 3 (List.take (Tryz.prog.cellsOf 3) (List.drop 3 [c4, c5, c6, c7, c8])) = xB[3]? := hflB 3 _ rfl
  rw [s3, eB3] at qB3
  replace qB3 : DataW.trod enc Tryz.prog W 0 (fun _ => true) true mB 3 [c7] = some yB3 := qB3
  obtain ⟨yB4, eB4⟩ := hxB 4 (by decide)
  have qB4 : DataW.trod enc Tryz.prog W 0 (fun _ => true) true mB 4 (List.take (Tryz.prog.cellsOf 4) (List.drop 4 [c4, c5, c6, c7, c8])) = xB[4]? := hflB 4 _ rfl
  rw [s4, eB4] at qB4
  replace qB4 : DataW.trod enc Tryz.prog W 0 (fun _ => true) true mB 4 [c8] = some yB4 := qB4
  obtain ⟨xC, mC, _, _, _, hxlC, hflC⟩ := DataW.trod_struct Tryz.underlying33 qT2
  have hxC : ∀ i, i < 3 → ∃ y, xC[i]? = some y := fun i hi => ⟨xC[i]'(by rw [hxlC]; exact hi), List.getElem?_eq_getElem _⟩
  obtain ⟨yC0, eC0⟩ := hxC 0 (by decide)
  have qC0 : DataW.trod enc Tryz.prog W 0 (fun _ => true) true mC 3 (List.take (Tryz.prog.cellsOf 3) (List.drop 0 [c9, c10, c11])) = xC[0]? := hflC 0 _ rfl
  rw [s3, eC0] at qC0
  replace qC0 : DataW.trod enc Tryz.prog W 0 (fun _ => true) true mC 3 [c9] = some yC0 := qC0
  obtain ⟨yC1, eC1⟩ := hxC 1 (by decide)
  have qC1 : DataW.trod enc Tryz.prog W 0 (fun _ => true) true mC 3 (List.take (Tryz.prog.cellsOf 3) (List.drop 1 [c9, c10, c11])) = xC[1]? := hflC 1 _ rfl
  rw [s3, eC1] at qC1
  replace qC1 : DataW.trod enc Tryz.prog W 0 (fun _ => true) true mC 3 [c10] = some yC1 := qC1
  obtain ⟨yC2, eC2⟩ := hxC 2 (by decide)
  have qC2 : DataW.trod enc Tryz.prog W 0 (fun _ => true) true mC 3 (List.take (Tryz.prog.cellsOf 3) (List.drop 2 [c9, c10, c11])) = xC[2]? := hflC 2 _ rfl
  rw [s3, eC2] at qC2
  replace qC2 : DataW.trod enc Tryz.prog W 0 (fun _ => true) true mC 3 [c11] = some yC2 := qC2
  obtain ⟨sc0, zc0, _, wc0⟩ := DataW.trod_string Tryz.underlying9 qA0
  injection zc0 with zc0 _
  subst zc0
  obtain ⟨nc1, zc1, _, wc1⟩ := DataW.trod_int Tryz.underlying3 qA1
  injection zc1 with zc1 _
  subst zc1
  obtain ⟨ss, hs1, hs2, hs3⟩ := srw_of_strings qA2
  obtain ⟨bc3, zc3, _⟩ := DataW.trod_bool Tryz.underlying4 qA3
  injection zc3 with zc3 _
  subst zc3
  obtain ⟨nc4, zc4, _, wc4⟩ := DataW.trod_int Tryz.underlying3 qB0
  injection zc4 with zc4 _
  subst zc4
  obtain ⟨nc5, zc5, _, wc5⟩ := DataW.trod_int Tryz.underlying3 qB1
  injection zc5 with zc5 _
  subst zc5
  obtain ⟨nc6, zc6, _, wc6⟩ := DataW.trod_int Tryz.underlying3 qB2
  injection zc6 with zc6 _
  subst zc6
  obtain ⟨nc7, zc7, _, wc7⟩ := DataW.trod_int Tryz.underlying3 qB3
  injection zc7 with zc7 _
  subst zc7
  obtain ⟨bc8, zc8, _⟩ := DataW.trod_bool Tryz.underlying4 qB4
  injection zc8 with zc8 _
  subst zc8
  obtain ⟨nc9, zc9, _, wc9⟩ := DataW.trod_int Tryz.underlying3 qC0
  injection zc9 with zc9 _
  subst zc9
  obtain ⟨nc10, zc10, _, wc10⟩ := DataW.trod_int Tryz.underlying3 qC1
  injection zc10 with zc10 _
  subst zc10
  obtain ⟨nc11, zc11, _, wc11⟩ := DataW.trod_int Tryz.underlying3 qC2
  injection zc11 with zc11 _
  subst zc11
  obtain ⟨nc12, zc12, _, wc12⟩ := DataW.trod_int Tryz.underlying3 qT3
  injection zc12 with zc12 _
  subst zc12
  obtain ⟨nc13, zc13, _, wc13⟩ := DataW.trod_int Tryz.underlying3 qT4
  injection zc13 with zc13 _
  subst zc13
  obtain ⟨nc14, zc14, _, wc14⟩ := DataW.trod_int Tryz.underlying3 qT5
  injection zc14 with zc14 _
  subst zc14
  obtain ⟨nc15, zc15, _, wc15⟩ := DataW.trod_int Tryz.underlying3 qT6
  injection zc15 with zc15 _
  subst zc15
  obtain ⟨nc16, zc16, _, wc16⟩ := DataW.trod_int Tryz.underlying3 qT7
  injection zc16 with zc16 _
  subst zc16
  obtain ⟨nc17, zc17, _, wc17⟩ := DataW.trod_int Tryz.underlying3 qT8
  injection zc17 with zc17 _
  subst zc17
  obtain ⟨nc18, zc18, _, wc18⟩ := DataW.trod_int Tryz.underlying3 qT9
  injection zc18 with zc18 _
  subst zc18
  refine ⟨⟨sc0, nc1, bc3, nc4, nc5, nc6, nc7, bc8, nc9, nc10, nc11, nc12, nc13, nc14, nc15, nc16, nc17, nc18⟩, c2, ss, rfl, hs1, hs2, hs3, wc0, fun n hn => ?_⟩
  unfold PV.pl Pl.ints at hn
  simp only [List.mem_cons, List.not_mem_nil, or_false] at hn
  rcases hn with rfl | rfl | rfl | rfl | rfl | rfl | rfl | rfl | rfl | rfl | rfl | rfl | rfl | rfl | rfl
  · exact wf_i64' wc1
  · exact wf_i64' wc4
  · exact wf_i64' wc5
  · exact wf_i64' wc6
  · exact wf_i64' wc7
  · exact wf_i64' wc9
  · exact wf_i64' wc10
  · exact wf_i64' wc11
  · exact wf_i64' wc12
  · exact wf_i64' wc13
  · exact wf_i64' wc14
  · exact wf_i64' wc15
  · exact wf_i64' wc16
  · exact wf_i64' wc17
  · exact wf_i64' wc18
end Go.Proofs.YtddnmocoaahlfaaGreatDoor
