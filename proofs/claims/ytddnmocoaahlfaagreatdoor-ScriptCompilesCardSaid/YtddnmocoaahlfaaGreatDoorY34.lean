/-
  How the reference's tables of lines stand for the statements of a script, in plain Lean.
  When the words of a line are as the language describes, in plain Lean.
  The reference's tables as lists, line by line, in plain Lean. No condition.
-/
import Derived.Test.YtddnmocoaahlfaaGreatDoorPlain
set_option linter.unusedVariables false
set_option linter.unusedSimpArgs false
namespace Go.Proofs.YtddnmocoaahlfaaGreatDoor
structure Tabs where
  W : Nat → List (List UInt8)
  En : Nat → Int
  El : Nat → Int
def Tabs.Agree (a b : Tabs) (lo hi : Nat) : Prop := ∀ i, lo ≤ i → i < hi → a.W i = b.W i ∧ a.En i = b.En i ∧ a.El i = b.El i
inductive Rep (T : Tabs) : Nat → Nat → List Stm → Prop
  | nil (i : Nat) : Rep T i i []
  | skip {i hi : Nat} {ss : List Stm} (h : T.W i = []) (r : Rep T (i + 1) hi ss) : Rep T i hi ss
  | act {i hi : Nat} {k n : List UInt8} {t : List (List UInt8)} {xs : List Ex} {ss : List Stm} (h : T.W i = k :: t) (hp : partsL k t = some (n, xs)) (hk : k ≠ sFor ∧ k ≠ sIf) (r : Rep T (i + 1) hi ss) : Rep T i hi (.mk (i + 1) k n xs [] [] :: ss)
  | loop {i e hi : Nat} {n : List UInt8} {t : List (List UInt8)} {xs : List Ex} {bd ss : List Stm} (h : T.W i = sFor :: t) (hp : partsL sFor t = some (n, xs)) (he : T.En i = e) (b : Rep T (i + 1) e bd) (r : Rep T (e + 1) hi ss) : Rep T i hi (.mk (i + 1) sFor n xs bd [] :: ss)
  | cond0 {i e hi : Nat} {n : List UInt8} {t : List (List UInt8)} {xs : List Ex} {bd ss : List Stm} (h : T.W i = sIf :: t) (hp : partsL sIf t = some (n, xs)) (he : T.En i = e) (hl : T.El i = e) (b : Rep T (i + 1) e bd) (r : Rep T (e + 1) hi ss) : Rep T i hi (.mk (i + 1) sIf n xs bd [] :: ss)
  | cond1 {i m e hi : Nat} {n : List UInt8} {t : List (List UInt8)} {xs : List Ex} {bd ot ss : List Stm} (h : T.W i = sIf :: t) (hp : partsL sIf t = some (n, xs)) (he : T.En i = e) (hl : T.El i = m) (b : Rep T (i + 1) m bd) (o : Rep T (m + 1) e ot) (r : Rep T (e + 1) hi ss) : Rep T i hi (.mk (i + 1) sIf n xs bd ot :: ss)
theorem Rep.le {T : Tabs} {lo hi : Nat} {ss : List Stm} (h : Rep T lo hi ss) : lo ≤ hi := by
  induction h with
  | nil => exact Nat.le_refl _
  | skip _ _ ih => omega
  | act _ _ _ _ ih => omega
  | loop _ _ _ _ _ ih1 ih2 => omega
  | cond0 _ _ _ _ _ _ ih1 ih2 => omega
  | cond1 _ _ _ _ _ _ _ ih1 ih2 ih3 => omega
theorem Rep.append {T : Tabs} {lo m : Nat} {ss : List Stm} (h : Rep T lo m ss) : ∀ {hi : Nat} {ts : List Stm}, Rep T m hi ts → Rep T lo hi (ss ++ ts) := by
  induction h with
  | nil => intro hi ts h; exact h
  | skip h _ ih => intro hi ts hr; exact .skip h (ih hr)
  | act h hp hk _ ih => intro hi ts hr; exact .act h hp hk (ih hr)
  | loop h hp he b _ _ ih => intro hi ts hr; exact .loop h hp he b (ih hr)
  | cond0 h hp he hl b _ _ ih => intro hi ts hr; exact .cond0 h hp he hl b (ih hr)
  | cond1 h hp he hl b o _ _ _ ih => intro hi ts hr; exact .cond1 h hp he hl b o (ih hr)
theorem Rep.congr {T T' : Tabs} {lo hi : Nat} {ss : List Stm} (h : Rep T lo hi ss) : T.Agree T' lo hi → Rep T' lo hi ss := by
  induction h with
  | nil => intro _; exact .nil _
  | @skip i hi ss h r ih => intro ha; have := r.le; have q := ha i (Nat.le_refl _) (by omega); exact .skip (q.1 ▸ h) (ih fun j h1 h2 => ha j (by omega) h2)
  | @act i hi k n t xs ss h hp hk r ih => intro ha; have := r.le; have q := ha i (Nat.le_refl _) (by omega); exact .act (q.1 ▸ h) hp hk (ih fun j h1 h2 => ha j (by omega) h2)
  | @loop i e hi n t xs bd ss h hp he b r ih1 ih2 =>
    intro ha; have := r.le; have := b.le; have q := ha i (Nat.le_refl _) (by omega)
    exact .loop (q.1 ▸ h) hp (q.2.1 ▸ he) (ih1 fun j h1 h2 => ha j (by omega) (by omega)) (ih2 fun j h1 h2 => ha j (by omega) h2)
  | @cond0 i e hi n t xs bd ss h hp he hl b r ih1 ih2 =>
    intro ha; have := r.le; have := b.le; have q := ha i (Nat.le_refl _) (by omega)
    exact .cond0 (q.1 ▸ h) hp (q.2.1 ▸ he) (q.2.2 ▸ hl) (ih1 fun j h1 h2 => ha j (by omega) (by omega)) (ih2 fun j h1 h2 => ha j (by omega) h2)
  | @cond1 i m e hi n t xs bd ot ss h hp he hl b o r ih1 ih2 ih3 =>
    intro ha; have := r.le; have := b.le; have := o.le; have q := ha i (Nat.le_refl _) (by omega)
    exact .cond1 (q.1 ▸ h) hp (q.2.1 ▸ he) (q.2.2 ▸ hl) (ih1 fun j h1 h2 => ha j (by omega) (by omega)) (ih2 fun j h1 h2 => ha j (by omega) (by omega)) (ih3 fun j h1 h2 => ha j (by omega) h2)
structure CurRep (T : Tabs) (o : Opn) (j hi : Nat) : Prop where
  line : o.line = j + 1
  words : ∃ t, T.W j = o.kind :: t ∧ partsL o.kind t = some (o.name, o.args)
  kind : o.kind = sFor ∨ o.kind = sIf
  lt : j < hi
  bodies : if o.hasOther then o.kind = sIf ∧ ∃ m : Nat, T.El j = m ∧ Rep T (j + 1) m o.body ∧ Rep T (m + 1) hi o.other else T.El j = -1 ∧ o.other = [] ∧ Rep T (j + 1) hi o.body
def OpenRep (T : Tabs) (top : List Stm) : Nat → List Opn → List Nat → Prop
  | hi, [], [] => Rep T 0 hi top
  | hi, o :: os, j :: js => CurRep T o j hi ∧ OpenRep T top j os js
  | _, _, _ => False
theorem CurRep.congr {T T' : Tabs} {o : Opn} {j hi : Nat} (h : CurRep T o j hi) (ha : T.Agree T' j hi) : CurRep T' o j hi := by
  obtain ⟨h1, ⟨t, h2, h3⟩, h4, h5, h6⟩ := h
  have q := ha j (Nat.le_refl _) h5
  refine ⟨h1, ⟨t, q.1 ▸ h2, h3⟩, h4, h5, ?_⟩
  split at h6
  · rename_i hh
    rw [if_pos hh]
    obtain ⟨g1, m, g2, g3, g4⟩ := h6
    have := g3.le
    have := g4.le
    exact ⟨g1, m, q.2.2 ▸ g2, g3.congr fun i a b => ha i (by omega) (by omega), g4.congr fun i a b => ha i (by omega) (by omega)⟩
  · rename_i hh
    rw [if_neg hh]
    exact ⟨q.2.2 ▸ h6.1, h6.2.1, h6.2.2.congr fun i a b => ha i (by omega) b⟩
theorem OpenRep.congr {T T' : Tabs} {top : List Stm} : ∀ {hi : Nat} {os : List Opn} {js : List Nat}, OpenRep T top hi os js → T.Agree T' 0 hi → OpenRep T' top hi os js
  | hi, [], [], h, ha => Rep.congr h ha
  | hi, o :: os, j :: js, h, ha => ⟨h.1.congr fun i a b => ha i (by omega) b, OpenRep.congr h.2 fun i a b => ha i a (by have := h.1.lt; omega)⟩
  | _, [], _ :: _, h, _ => h.elim
  | _, _ :: _, [], h, _ => h.elim
theorem OpenRep.len {T : Tabs} {top : List Stm} : ∀ {hi : Nat} {os : List Opn} {js : List Nat}, OpenRep T top hi os js → os.length = js.length
  | _, [], [], _ => rfl
  | _, o :: os, j :: js, h => by simp [OpenRep.len h.2]
  | _, [], _ :: _, h => h.elim
  | _, _ :: _, [], h => h.elim
theorem OpenRep.lt {T : Tabs} {top : List Stm} : ∀ {hi : Nat} {os : List Opn} {js : List Nat}, OpenRep T top hi os js → ∀ j ∈ js, j < hi
  | _, [], [], _ => fun j hj => by cases hj
  | _, o :: os, j :: js, h => fun i hi => by
    rcases List.mem_cons.1 hi with rfl | hi
    · exact h.1.lt
    · exact Nat.lt_trans (OpenRep.lt h.2 i hi) h.1.lt
  | _, [], _ :: _, h => h.elim
  | _, _ :: _, [], h => h.elim
theorem OpenRep.put {T : Tabs} {b : Bld} {hi hi' : Nat} {js : List Nat} {s : Stm} (h : OpenRep T b.top hi b.open_ js) (r : Rep T hi hi' [s]) : OpenRep T (b.put s).top hi' (b.put s).open_ js := by
  have hle := r.le
  obtain ⟨top, os⟩ := b
  cases os with
  | nil =>
    cases js with
    | nil => exact Rep.append h r
    | cons j js => exact h.elim
  | cons o os =>
    cases js with
    | nil => exact h.elim
    | cons j js =>
      refine ⟨?_, h.2⟩
      obtain ⟨⟨h1, h2, h3, h4, h5⟩, _⟩ := h
      unfold Opn.put
      by_cases hh : o.hasOther = true
      · rw [if_pos hh] at h5 ⊢
        obtain ⟨g1, m, g2, g3, g4⟩ := h5
        exact ⟨h1, h2, h3, by omega, by simp only; rw [if_pos hh]; exact ⟨g1, m, g2, g3, g4.append r⟩⟩
      · rw [if_neg hh] at h5 ⊢
        exact ⟨h1, h2, h3, by omega, by simp only; rw [if_neg hh]; exact ⟨h5.1, h5.2.1, h5.2.2.append r⟩⟩
theorem OpenRep.idle {T : Tabs} {top : List Stm} {hi : Nat} {os : List Opn} {js : List Nat} (h : OpenRep T top hi os js) (hw : T.W hi = []) : OpenRep T top (hi + 1) os js := by
  have r : Rep T hi (hi + 1) [] := .skip hw (.nil _)
  cases os with
  | nil =>
    cases js with
    | nil =>
      have := Rep.append h r
      rw [List.append_nil] at this
      exact this
    | cons j js => exact h.elim
  | cons o os =>
    cases js with
    | nil => exact h.elim
    | cons j js =>
      obtain ⟨⟨h1, h2, h3, h4, h5⟩, h6⟩ := h
      refine ⟨⟨h1, h2, h3, by omega, ?_⟩, h6⟩
      split at h5
      · rename_i hh
        rw [if_pos hh]
        obtain ⟨g1, m, g2, g3, g4⟩ := h5
        exact ⟨g1, m, g2, g3, by have := g4.append r; rwa [List.append_nil] at this⟩
      · rename_i hh
        rw [if_neg hh]
        exact ⟨h5.1, h5.2.1, by have := h5.2.2.append r; rwa [List.append_nil] at this⟩
theorem OpenRep.opens {T : Tabs} {top : List Stm} {hi : Nat} {os : List Opn} {js : List Nat} {k n : List UInt8} {t : List (List UInt8)} {xs : List Ex} (h : OpenRep T top hi os js) (hw : T.W hi = k :: t) (hp : partsL k t = some (n, xs)) (hk : k = sFor ∨ k = sIf) (he : T.El hi = -1) :
    OpenRep T top (hi + 1) (⟨hi + 1, k, n, xs, [], [], false⟩ :: os) (hi :: js) :=
  ⟨⟨rfl, ⟨t, hw, hp⟩, hk, by omega, by rw [if_neg (by simp)]; exact ⟨he, rfl, .nil _⟩⟩, h⟩
theorem OpenRep.single {T : Tabs} {b : Bld} {hi : Nat} {js : List Nat} {k n : List UInt8} {t : List (List UInt8)} {xs : List Ex} (h : OpenRep T b.top hi b.open_ js) (hw : T.W hi = k :: t) (hp : partsL k t = some (n, xs)) (hk : k ≠ sFor ∧ k ≠ sIf) :
    OpenRep T (b.put (.mk (hi + 1) k n xs [] [])).top (hi + 1) (b.put (.mk (hi + 1) k n xs [] [])).open_ js := h.put (.act hw hp hk (.nil _))
theorem OpenRep.else_ {T T' : Tabs} {top : List Stm} {hi j : Nat} {o : Opn} {os : List Opn} {js : List Nat} (h : OpenRep T top hi (o :: os) (j :: js)) (hk : o.kind = sIf) (hh : o.hasOther = false)
    (hW : ∀ i, T'.W i = T.W i) (hEn : ∀ i, T'.En i = T.En i) (hEl : ∀ i, i ≠ j → T'.El i = T.El i) (hj : T'.El j = hi) : OpenRep T' top (hi + 1) ({ o with hasOther := true } :: os) (j :: js) := by
  obtain ⟨⟨h1, ⟨t, h2, h2'⟩, h3, h4, h5⟩, h6⟩ := h
  rw [if_neg (by rw [hh]; simp)] at h5
  refine ⟨⟨h1, ⟨t, (hW j).trans h2, h2'⟩, h3, by omega, ?_⟩, h6.congr fun i _ b => ⟨(hW i).symm, (hEn i).symm, (hEl i (by omega)).symm⟩⟩
  simp only
  rw [if_pos trivial]
  refine ⟨hk, hi, hj, h5.2.2.congr fun i a b => ⟨(hW i).symm, (hEn i).symm, (hEl i (by omega)).symm⟩, ?_⟩
  rw [h5.2.1]
  exact .nil _
theorem OpenRep.end_ {T T' : Tabs} {top : List Stm} {hi j : Nat} {o : Opn} {os : List Opn} {js : List Nat} (h : OpenRep T top hi (o :: os) (j :: js))
    (hW : ∀ i, T'.W i = T.W i) (hEn : ∀ i, i ≠ j → T'.En i = T.En i) (hEl : ∀ i, i ≠ j → T'.El i = T.El i) (hj : T'.En j = hi) (hl : T'.El j = if o.hasOther then T.El j else (hi : Int)) :
    OpenRep T' (Bld.put ⟨top, os⟩ o.toStm).top (hi + 1) (Bld.put ⟨top, os⟩ o.toStm).open_ js := by
  obtain ⟨⟨h1, ⟨t, h2, h2'⟩, h3, h4, h5⟩, h6⟩ := h
  have hc : ∀ lo m, j + 1 ≤ lo → T.Agree T' lo m := fun lo m hlo i a b => ⟨(hW i).symm, (hEn i (by omega)).symm, (hEl i (by omega)).symm⟩
  have h6' : OpenRep T' top j os js := h6.congr fun i _ b => ⟨(hW i).symm, (hEn i (by omega)).symm, (hEl i (by omega)).symm⟩
  refine OpenRep.put (b := ⟨top, os⟩) h6' ?_
  have hw := (hW j).trans h2
  unfold Opn.toStm
  rw [h1]
  by_cases hh : o.hasOther = true
  · rw [if_pos hh] at h5 hl
    obtain ⟨g1, m, g2, g3, g4⟩ := h5
    rw [g1] at hw h2' ⊢
    exact .cond1 hw h2' hj (hl.trans g2) (g3.congr (hc _ _ (Nat.le_refl _))) (g4.congr (hc _ _ (by have := g3.le; omega))) (.nil _)
  · rw [if_neg hh] at h5 hl
    rw [h5.2.1]
    rcases h3 with h3 | h3
    · rw [h3] at hw h2' ⊢
      exact .loop hw h2' hj (h5.2.2.congr (hc _ _ (Nat.le_refl _))) (.nil _)
    · rw [h3] at hw h2' ⊢
      exact .cond0 hw h2' hj hl (h5.2.2.congr (hc _ _ (Nat.le_refl _))) (.nil _)
end Go.Proofs.YtddnmocoaahlfaaGreatDoor
namespace Go.Proofs.YtddnmocoaahlfaaGreatDoor
def okAll (l : List (List UInt8)) : Bool := l.all fun w => (parseE w).isSome
theorem exprsL_some : ∀ l : List (List UInt8), (exprsL l).isSome = okAll l
  | [] => rfl
  | w :: ws => by
    have ih := exprsL_some ws
    have e : exprsL (w :: ws) = match parseE w with | none => none | some x => match exprsL ws with | none => none | some xs => some (x :: xs) := rfl
    have e2 : okAll (w :: ws) = ((parseE w).isSome && okAll ws) := rfl
    rw [e, e2, ← ih]
    cases parseE w with
    | none => rfl
    | some x => cases exprsL ws <;> rfl
def fmdL (k : List UInt8) (t : List (List UInt8)) : Bool :=
  if k = sElse ∨ k = sEnd then decide (t.length = 0) else (partsL k t).isSome
theorem named_some (t : List (List UInt8)) (many : Nat) : (namedL t many).isSome = (decide (t.length = many + 1) && (isNameL (t.headD []) && okAll t.tail)) := by
  unfold namedL
  cases t with
  | nil => simp
  | cons n t =>
    simp only [List.length_cons, List.headD_cons, List.tail_cons]
    by_cases h : t.length = many
    · by_cases hn : isNameL n = true
      · rw [if_pos ⟨h, hn⟩, Option.isSome_map, exprsL_some]
        simp [h, hn]
      · rw [if_neg (fun hh => hn hh.2)]
        simp [hn]
    · rw [if_neg (fun hh => h hh.1)]
      simp [h]
theorem simple_some (t : List (List UInt8)) (lo hi : Nat) : (simpleL t lo hi).isSome = (decide (lo ≤ t.length ∧ t.length ≤ hi) && okAll t) := by
  unfold simpleL
  by_cases h : t.length < lo ∨ t.length > hi
  · rw [if_pos h]
    have : ¬ (lo ≤ t.length ∧ t.length ≤ hi) := by omega
    simp [this]
  · rw [if_neg h, Option.isSome_map, exprsL_some]
    have : lo ≤ t.length ∧ t.length ≤ hi := by omega
    simp [this]
theorem fmd_let (t : List (List UInt8)) : fmdL sLet t = (decide (t.length = 2) && (isNameL (t.headD []) && okAll t.tail)) := by
  unfold fmdL
  rw [if_neg (by decide)]
  unfold partsL
  rw [if_pos rfl, named_some]
theorem fmd_for (t : List (List UInt8)) : fmdL sFor t = (decide (t.length = 3) && (isNameL (t.headD []) && okAll t.tail)) := by
  unfold fmdL
  rw [if_neg (by decide)]
  unfold partsL
  rw [if_neg (by decide), if_pos rfl, named_some]
theorem fmd_if (t : List (List UInt8)) : fmdL sIf t = (decide (t.length = 1) && okAll t) := by
  unfold fmdL
  rw [if_neg (by decide)]
  unfold partsL
  rw [if_neg (by decide), if_neg (by decide), if_pos rfl, simple_some]
  congr 1
  simp only [decide_eq_decide]
  omega
theorem fmd_end {k : List UInt8} (t : List (List UInt8)) (h : k = sElse ∨ k = sEnd) : fmdL k t = decide (t.length = 0) := by unfold fmdL; rw [if_pos h]
def takes (k n : Nat) : Bool := if k = 17 then decide (n ≤ 16) else decide (n = fieldsOf k)
theorem fmd_act {k : List UInt8} (t : List (List UInt8)) (h1 : ¬ (k = sElse ∨ k = sEnd)) (h2 : k ≠ sLet) (h3 : k ≠ sFor) (h4 : k ≠ sIf) : fmdL k t = (decide (actOfL k ≠ 0) && (takes (actOfL k) t.length && okAll t)) := by
  unfold fmdL takes
  rw [if_neg h1]
  unfold partsL
  rw [if_neg h2, if_neg h3, if_neg h4]
  simp only
  by_cases k0 : actOfL k = 0
  · rw [if_pos k0]; simp [k0]
  · rw [if_neg k0]
    by_cases k17 : actOfL k = 17
    · rw [if_pos k17, simple_some]
      simp [k17]
    · rw [if_neg k17, simple_some]
      simp only [k0, k17, ne_eq, not_false_eq_true, decide_true, Bool.true_and, if_false]
      congr 1
      simp only [decide_eq_decide]
      unfold fieldsOf
      omega
end Go.Proofs.YtddnmocoaahlfaaGreatDoor
namespace Go.Proofs.YtddnmocoaahlfaaGreatDoor
def tabs (Ws : List (List (List UInt8))) (ei li : List Int) : Tabs := ⟨fun i => Ws.getD i [], fun i => ei.getD i 0, fun i => li.getD i 0⟩
theorem getD_push {α : Type} (l : List α) (x d : α) (i : Nat) (h : i < l.length) : (l ++ [x]).getD i d = l.getD i d := by
  simp [List.getD_eq_getElem?_getD, List.getElem?_append_left h]
theorem getD_last {α : Type} (l : List α) (x d : α) : (l ++ [x]).getD l.length d = x := by
  simp [List.getD_eq_getElem?_getD]
theorem getD_set_ne' {α : Type} (l : List α) (x d : α) (i j : Nat) (h : i ≠ j) : (l.set j x).getD i d = l.getD i d := by
  simp [List.getD_eq_getElem?_getD, List.getElem?_set, Ne.symm h]
theorem getD_set_eq' {α : Type} (l : List α) (x d : α) (j : Nat) (h : j < l.length) : (l.set j x).getD j d = x := by
  simp [List.getD_eq_getElem?_getD, List.getElem?_set, h]
theorem tabs_push (Ws : List (List (List UInt8))) (w : List (List UInt8)) (ei li : List Int) : (tabs Ws ei li).Agree (tabs (Ws ++ [w]) ei li) 0 Ws.length := fun i _ h => ⟨(getD_push Ws w [] i h).symm, rfl, rfl⟩
theorem tabs_last (Ws : List (List (List UInt8))) (w : List (List UInt8)) (ei li : List Int) : (tabs (Ws ++ [w]) ei li).W Ws.length = w := getD_last Ws w []
section
variable {Ws : List (List (List UInt8))} {ei li : List Int} {top : List Stm} {os : List Opn} {js : List Nat} {b : Bld} {k n : List UInt8} {t : List (List UInt8)} {xs : List Ex} {o : Opn} {j : Nat}
theorem rs_idle (h : OpenRep (tabs Ws ei li) top Ws.length os js) : OpenRep (tabs (Ws ++ [[]]) ei li) top (Ws.length + 1) os js := OpenRep.idle (h.congr (tabs_push _ _ _ _)) (tabs_last _ _ _ _)
theorem rs_single (h : OpenRep (tabs Ws ei li) b.top Ws.length b.open_ js) (hp : partsL k t = some (n, xs)) (hk : k ≠ sFor ∧ k ≠ sIf) : OpenRep (tabs (Ws ++ [k :: t]) ei li) (b.put (.mk (Ws.length + 1) k n xs [] [])).top (Ws.length + 1) (b.put (.mk (Ws.length + 1) k n xs [] [])).open_ js := OpenRep.single (h.congr (tabs_push _ _ _ _)) (tabs_last _ _ _ _) hp hk
theorem rs_opens (h : OpenRep (tabs Ws ei li) top Ws.length os js) (hp : partsL k t = some (n, xs)) (hk : k = sFor ∨ k = sIf) (hl : Ws.length < li.length) : OpenRep (tabs (Ws ++ [k :: t]) ei (li.set Ws.length (-1))) top (Ws.length + 1) (⟨Ws.length + 1, k, n, xs, [], [], false⟩ :: os) (Ws.length :: js) :=
  OpenRep.opens (h.congr fun i _ hi => ⟨(getD_push Ws _ [] i hi).symm, rfl, (getD_set_ne' li _ 0 i Ws.length (by omega)).symm⟩) (tabs_last _ _ _ _) hp hk (getD_set_eq' li _ 0 _ hl)
theorem rs_else (h : OpenRep (tabs Ws ei li) top Ws.length (o :: os) (j :: js)) (hk : o.kind = sIf) (hh : o.hasOther = false) (hl : Ws.length < li.length) (w : List (List UInt8)) : OpenRep (tabs (Ws ++ [w]) ei (li.set j (Ws.length : Nat))) top (Ws.length + 1) ({ o with hasOther := true } :: os) (j :: js) := by
  have hj := h.1.lt
  exact OpenRep.else_ (h.congr (tabs_push Ws w ei li)) hk hh (fun _ => rfl) (fun _ => rfl) (fun i hi => getD_set_ne' li _ 0 i j hi) (getD_set_eq' li _ 0 j (by omega))
theorem rs_end (h : OpenRep (tabs Ws ei li) top Ws.length (o :: os) (j :: js)) (he : Ws.length < ei.length) (hl : Ws.length < li.length) (w : List (List UInt8)) : OpenRep (tabs (Ws ++ [w]) (ei.set j (Ws.length : Nat)) (if o.hasOther then li else li.set j (Ws.length : Nat))) (Bld.put ⟨top, os⟩ o.toStm).top (Ws.length + 1) (Bld.put ⟨top, os⟩ o.toStm).open_ js := by
  have hj := h.1.lt
  refine OpenRep.end_ (h.congr (tabs_push Ws w ei li)) (fun _ => rfl) (fun i hi => getD_set_ne' ei _ 0 i j hi) (fun i hi => ?_) (getD_set_eq' ei _ 0 j (by omega)) ?_
  · show (if o.hasOther then li else _).getD i 0 = li.getD i 0
    split
    · rfl
    · exact getD_set_ne' li _ 0 i j hi
  · show (if o.hasOther then li else _).getD j 0 = if o.hasOther then li.getD j 0 else _
    split
    · rfl
    · exact getD_set_eq' li _ 0 j (by omega)
theorem rs_has (h : OpenRep (tabs Ws ei li) top Ws.length (o :: os) (j :: js)) : (li.getD j 0 < 0 ↔ o.hasOther = false) ∧ (∃ t, Ws.getD j [] = o.kind :: t) ∧ j < Ws.length ∧ (o.kind = sFor ∨ o.kind = sIf) := by
  obtain ⟨h1, ⟨t, h2, _⟩, h3, h4, h5⟩ := h.1
  refine ⟨?_, ⟨t, h2⟩, h4, h3⟩
  by_cases hh : o.hasOther = true
  · rw [if_pos hh] at h5
    obtain ⟨_, m, hm, _⟩ := h5
    have hm : li.getD j 0 = (m : Int) := hm
    rw [hm, hh]; simp
  · rw [if_neg hh] at h5
    have hm : li.getD j 0 = -1 := h5.1
    rw [hm]; simp [hh]
end
theorem add_bad {line : Nat} {k : List UInt8} {t : List (List UInt8)} (b : Bld) (h : fmdL k t = false) : addL line (k :: t) b = none := by
  unfold fmdL at h
  simp only [addL]
  by_cases he : k = sElse ∨ k = sEnd
  · rw [if_pos he] at h ⊢
    unfold closeL
    cases b.open_ with
    | nil => rfl
    | cons o os =>
      simp only
      rw [if_pos (by simp only [decide_eq_false_iff_not] at h; simp; exact fun e => h (by rw [e]; rfl))]
  · rw [if_neg he] at h ⊢
    cases hp : partsL k t with
    | none => rfl
    | some p => rw [hp] at h; cases h
theorem add_open {line : Nat} {k : List UInt8} {t : List (List UInt8)} (b : Bld) (hk : k = sFor ∨ k = sIf) (h : fmdL k t = true) : ∃ n xs, partsL k t = some (n, xs) ∧ addL line (k :: t) b = if b.open_.length + 1 ≤ 16 then some { b with open_ := ⟨line, k, n, xs, [], [], false⟩ :: b.open_ } else none := by
  have he : ¬ (k = sElse ∨ k = sEnd) := by rcases hk with rfl | rfl <;> decide
  unfold fmdL at h
  rw [if_neg he] at h
  obtain ⟨⟨n, xs⟩, hp⟩ := Option.isSome_iff_exists.1 h
  refine ⟨n, xs, hp, ?_⟩
  simp only [addL]
  rw [if_neg he, hp]
  simp only
  rw [if_pos hk]
theorem add_single {line : Nat} {k : List UInt8} {t : List (List UInt8)} (b : Bld) (hk : k ≠ sFor ∧ k ≠ sIf) (he : k ≠ sElse ∧ k ≠ sEnd) (h : fmdL k t = true) : ∃ n xs, partsL k t = some (n, xs) ∧ addL line (k :: t) b = some (b.put (.mk line k n xs [] [])) := by
  have he : ¬ (k = sElse ∨ k = sEnd) := fun h => h.elim he.1 he.2
  unfold fmdL at h
  rw [if_neg he] at h
  obtain ⟨⟨n, xs⟩, hp⟩ := Option.isSome_iff_exists.1 h
  refine ⟨n, xs, hp, ?_⟩
  simp only [addL]
  rw [if_neg he, hp]
  simp only
  rw [if_neg (fun h => h.elim hk.1 hk.2)]
theorem add_else {line : Nat} {t : List (List UInt8)} (b : Bld) (h : fmdL sElse t = true) : addL line (sElse :: t) b = match b.open_ with
    | [] => none
    | o :: os => if o.kind ≠ sIf ∨ o.hasOther then none else some { b with open_ := { o with hasOther := true } :: os } := by
  rw [fmd_end _ (.inl rfl)] at h
  simp only [decide_eq_true_eq] at h
  have : t = [] := List.length_eq_zero_iff.1 h
  subst this
  simp only [addL]
  rw [if_pos (.inl trivial)]
  unfold closeL
  cases b.open_ with
  | nil => rfl
  | cons o os =>
    simp only
    rw [if_neg (by simp), if_neg (by decide)]
theorem add_end {line : Nat} {t : List (List UInt8)} (b : Bld) (h : fmdL sEnd t = true) : addL line (sEnd :: t) b = match b.open_ with
    | [] => none
    | o :: os => some (Bld.put { b with open_ := os } o.toStm) := by
  rw [fmd_end _ (.inr rfl)] at h
  simp only [decide_eq_true_eq] at h
  have : t = [] := List.length_eq_zero_iff.1 h
  subst this
  simp only [addL]
  rw [if_pos (.inr trivial)]
  unfold closeL
  cases b.open_ with
  | nil => rfl
  | cons o os =>
    simp only
    rw [if_neg (by simp), if_pos (by decide)]
end Go.Proofs.YtddnmocoaahlfaaGreatDoor
