/- Closed facts of the program's types that the rows ask for, found without running through all types. No statement of the seat is proved in this file. -/
import Derived.Test.YtkblnbbpeakgmaaGreatRows
import Derived.ProofKit
set_option linter.all false
namespace Go.Lb
open Go.Proofs
theorem grown_fix {P : Program} {s : List TypeId} (h : P.grow s = s) : ∀ n, P.grown n s = s
  | 0 => rfl
  | n + 1 => by unfold Program.grown; rw [h]; exact grown_fix h n
theorem book_of {P : Program} {t : TypeId} {s : List TypeId} (n : Nat) (hn : P.types.size = n + 1) (h1 : P.grow [t] = s) (h2 : P.grow s = s) : P.book t = s := by
  unfold Program.book
  rw [hn]
  show P.grown n (P.grow [t]) = s
  rw [h1]
  exact grown_fix h2 n
theorem size_T : Tryz.prog.types.size = 395 + 1 := by kernel_rfl
/-- a type that is no more than itself -/
structure Flat (P : Program) (t : TypeId) : Prop where
  maps : P.mapsRec t = false
  ifaces : P.ifacesRec t = false
  loops : P.loopsFrom t = false
  wide : P.wideKeysFrom t = false
  fine : P.fineRow t = true
  read : P.readableRec t = true
theorem flat_one {P : Program} {t : TypeId} (hb : P.book t = [t]) (h1 : P.partsOf t = []) (h2 : ((match P.underlying t with | some (.map _ _) => true | _ => false) : Bool) = false) (h3 : ((match P.underlying t with | some (.interface _) => true | _ => false) : Bool) = false) (h4 : P.fineRow t = true) : Flat P t := by
  refine ⟨?_, ?_, ?_, ?_, h4, by unfold Program.readableRec; rw [hb, List.all_cons, List.all_nil, h4, h1]; rfl⟩
  · unfold Program.mapsRec; rw [hb, List.any_cons, List.any_nil, Bool.or_false]; exact h2
  · unfold Program.ifacesRec; rw [hb, List.any_cons, List.any_nil, Bool.or_false]; exact h3
  · unfold Program.loopsFrom; rw [hb, List.any_cons, List.any_nil, Bool.or_false, h1]; rfl
  · unfold Program.wideKeysFrom; rw [hb, List.any_cons, List.any_nil, Bool.or_false]
    split
    · rename_i k v e; rw [e] at h2; cases h2
    · rfl
theorem flat_two {P : Program} {t e : TypeId} (hb : P.book t = [t, e]) (he : P.book e = [e]) (hne : (e == t) = false) (h1 : P.partsOf t = [e]) (h5 : P.partsOf e = []) (fe : Flat P e) (h2 : ((match P.underlying t with | some (.map _ _) => true | _ => false) : Bool) = false) (h3 : ((match P.underlying t with | some (.interface _) => true | _ => false) : Bool) = false) (h4 : P.fineRow t = true) : Flat P t := by
  obtain ⟨f1, f2, f3, f4, f5, f6⟩ := fe
  refine ⟨?_, ?_, ?_, ?_, h4, by unfold Program.readableRec; rw [hb, List.all_cons, List.all_cons, List.all_nil, h4, f5, h1, h5]; simp⟩
  · unfold Program.mapsRec at *; rw [he] at f1; rw [hb, List.any_cons, f1, Bool.or_false]; exact h2
  · unfold Program.ifacesRec at *; rw [he] at f2; rw [hb, List.any_cons, f2, Bool.or_false]; exact h3
  · unfold Program.loopsFrom at *; rw [he] at f3; rw [hb, List.any_cons, f3, Bool.or_false, h1, List.any_cons, List.any_nil, Bool.or_false, he]
    simp only [List.contains_cons, List.contains_nil, Bool.or_false]
    rw [Bool.eq_false_iff] at *
    intro hh
    exact hne (by rw [beq_iff_eq] at *; exact hh.symm)
  · unfold Program.wideKeysFrom at *; rw [he] at f4; rw [hb, List.any_cons, f4, Bool.or_false]
    split
    · rename_i k v e; rw [e] at h2; cases h2
    · rfl
theorem book3 : Tryz.prog.book 3 = [3] := book_of _ size_T (by kernel_rfl) (by kernel_rfl)
theorem book4 : Tryz.prog.book 4 = [4] := book_of _ size_T (by kernel_rfl) (by kernel_rfl)
theorem book22 : Tryz.prog.book 22 = [22, 3] := book_of _ size_T (by kernel_rfl) (by kernel_rfl)
theorem book23 : Tryz.prog.book 23 = [23, 28] := book_of _ size_T (by kernel_rfl) (by kernel_rfl)
theorem book28 : Tryz.prog.book 28 = [28] := book_of _ size_T (by kernel_rfl) (by kernel_rfl)
theorem flat3 : Flat Tryz.prog 3 := flat_one book3 (by kernel_rfl) (by kernel_rfl) (by kernel_rfl) (by kernel_rfl)
theorem flat4 : Flat Tryz.prog 4 := flat_one book4 (by kernel_rfl) (by kernel_rfl) (by kernel_rfl) (by kernel_rfl)
theorem flat28 : Flat Tryz.prog 28 := flat_one book28 (by kernel_rfl) (by kernel_rfl) (by kernel_rfl) (by kernel_rfl)
theorem flat22 : Flat Tryz.prog 22 := flat_two book22 book3 (by kernel_rfl) (by kernel_rfl) (by kernel_rfl) flat3 (by kernel_rfl) (by kernel_rfl) (by kernel_rfl)
theorem flat23 : Flat Tryz.prog 23 := flat_two book23 book28 (by kernel_rfl) (by kernel_rfl) (by kernel_rfl) flat28 (by kernel_rfl) (by kernel_rfl) (by kernel_rfl)

set_option maxRecDepth 1000000 in
theorem init_list : ∃ l, Tryz.prog.initOrder.toList = l ∧ behindMainWord (wordsSigns l) = "cut".toList :: (behindMainWord (wordsSigns l)).tail := by
  refine ⟨_, String.toList_ofList, ?_⟩
  kernel_rfl
theorem init_cut : ∃ r, behindMainWord (wordsSigns Tryz.prog.initOrder.toList) = "cut".toList :: r := by
  obtain ⟨l, h1, h2⟩ := init_list
  exact ⟨_, by rw [h1]; exact h2⟩
theorem strip_cut (r : List (List Char)) : stripLifts liftWords ("cut".toList :: r) = ([], "cut".toList :: r) := by
  kernel_rfl
theorem mayEnter_cut {P : Program} {r : List (List Char)} (h : behindMainWord (wordsSigns P.initOrder.toList) = "cut".toList :: r) (h1 : P.laysLater = false) (h2 : P.bearsReflect = false) (h3 : P.doorFits [] = true) : P.mayEnter = true := by
  unfold Program.mayEnter
  rw [h]
  simp only [strip_cut, h1, h2, h3]
  kernel_rfl
theorem lifts_cut {P : Program} {r : List (List Char)} (h : behindMainWord (wordsSigns P.initOrder.toList) = "cut".toList :: r) : P.headLifts = [] := by
  unfold Program.headLifts
  rw [h, strip_cut]
  kernel_rfl
theorem liftsFinal_cut {P : Program} {r : List (List Char)} (h : behindMainWord (wordsSigns P.initOrder.toList) = "cut".toList :: r) : P.liftsFinal = false := by
  unfold Program.liftsFinal
  rw [lifts_cut h, h]
  kernel_rfl
theorem make_cut {P : Program} {r : List (List Char)} (h : behindMainWord (wordsSigns P.initOrder.toList) = "cut".toList :: r) : P.make = some .cut := by
  unfold Program.make
  rw [h]
  kernel_rfl
theorem lays_T : Tryz.prog.laysLater = false := by kernel_rfl
theorem refl_T : Tryz.prog.bearsReflect = false := by kernel_rfl
theorem door_T : Tryz.prog.doorFits [] = true := by kernel_rfl
theorem mayEnter_T : Tryz.prog.mayEnter = true := let ⟨_, h⟩ := init_cut; mayEnter_cut h lays_T refl_T door_T
theorem liftsFinal_T : Tryz.prog.liftsFinal = false := let ⟨_, h⟩ := init_cut; liftsFinal_cut h
theorem make_T : Tryz.prog.make = some .cut := let ⟨_, h⟩ := init_cut; make_cut h
theorem any_flat {P : Program} {q : TypeId → Bool} {ts : List TypeId} (h : ∀ t ∈ ts, q t = false) : ts.any q = false := by
  rw [Bool.eq_false_iff]
  intro hh
  obtain ⟨t, ht, e⟩ := List.any_eq_true.1 hh
  rw [h t ht] at e
  cases e
theorem joined_flat {P : Program} {f : FuncId} {fn : Func} {s : ChangeSpec} {c : OpenClaim}
    (hT : ∀ t ∈ fn.params.toList ++ s.plain.varTypes P, Flat P t) (hR : ∀ t ∈ fn.resultTypes.toList, Flat P t)
    (c1 : c.maps = false) (c2 : c.ifaces = false) (c3 : c.loops = false) (c4 : c.wideKeys = false) (c5 : c.ifacesOut = false) (c6 : c.loopsOut = false)
    (a1 : (c.wf (OpenSpec.ofChange s) && laidOutB P && mapsRowed P) = true)
    (a2 : namedTie P c.named s.vars = true)
    (a3 : ((c.stops == []) && (P.stops == []) && (c.knobs == []) && (P.stopKnobs == [])) = true)
    (b1 : (c.inPlace == P.inPlace f) = true) (b2 : (c.unfollowed == P.unfollowed f) = true) (b3 : (c.recurses == P.recurses f) = true) (b4 : (c.named == P.varsNamed f) = true)
    (b5 : (c.mapsOut == P.mapsAmong fn.resultTypes.toList) = true)
    (a6 : (s.vars.all (P.varReadable ·) && fn.resultTypes.all (fun t => P.readableRec t && decide (t < P.types.size))) = true)
    (a7 : ((c.plainKeys == P.plainKeys) && c.shortTexts.isNone) = true) (a8 : P.stopsHeard = true) (a9 : P.mayEnter = true) (a10' : P.liftsFinal = false) (a10'' : c.lifted = false) (am : P.make = some .cut) (am' : c.make = .cut)
    (a11 : ((c.kinds == (if c.domain.isEmpty then [] else fn.params.toList.map fun t => match P.underlying t with | some (.int k) => some k | _ => none)) && (c.pinned == c.pinnedBy)) = true)
    (a12 : ((c.veiled == (fn.params.toList ++ s.plain.varTypes P ++ fn.resultTypes.toList).any (P.veiledRec ·)) && c.veiledFits P fn.params.toList (fn.params.toList ++ s.plain.varTypes P ++ fn.resultTypes.toList)) = true) :
    joinedFacts P f fn s c = true := by
  have hW : ∀ t ∈ fn.params.toList ++ s.plain.varTypes P ++ fn.resultTypes.toList, Flat P t := fun t ht => (List.mem_append.1 ht).elim (hT t) (hR t)
  have e1 : (c.maps == (fn.params.toList ++ s.plain.varTypes P).any (P.mapsRec ·)) = true := by rw [c1, any_flat (P := P) fun t ht => (hT t ht).maps]; rfl
  have e2 : (c.ifaces == (fn.params.toList ++ s.plain.varTypes P).any (P.ifacesRec ·)) = true := by rw [c2, any_flat (P := P) fun t ht => (hT t ht).ifaces]; rfl
  have e3 : (c.loops == (fn.params.toList ++ s.plain.varTypes P).any (P.loopsFrom ·)) = true := by rw [c3, any_flat (P := P) fun t ht => (hT t ht).loops]; rfl
  have e4 : (c.wideKeys == (fn.params.toList ++ s.plain.varTypes P ++ fn.resultTypes.toList).any (P.wideKeysFrom ·)) = true := by rw [c4, any_flat (P := P) fun t ht => (hW t ht).wide]; rfl
  have e5 : (c.ifacesOut == fn.resultTypes.toList.any (P.ifacesRec ·)) = true := by rw [c5, any_flat (P := P) fun t ht => (hR t ht).ifaces]; rfl
  have e6 : (c.loopsOut == fn.resultTypes.toList.any (P.loopsFrom ·)) = true := by rw [c6, any_flat (P := P) fun t ht => (hR t ht).loops]; rfl
  simp only [Bool.and_eq_true] at a1 a3 a6 a7 a11 a12
  obtain ⟨⟨a1a, a1b⟩, a1c⟩ := a1
  have a2a : fn.params.all (P.readableRec ·) = true := by
    rw [← Array.all_toList]
    exact List.all_eq_true.2 fun t ht => (hT t (List.mem_append.2 (.inl ht))).read
  obtain ⟨⟨⟨a3a, a3b⟩, a3c⟩, a3d⟩ := a3
  obtain ⟨a6a, a6b⟩ := a6
  obtain ⟨a7a, a7b⟩ := a7
  obtain ⟨a11b, a11c⟩ := a11
  have a10 : (c.lifted == P.liftsFinal) = true := by rw [a10', a10'']; rfl
  have a11a : (P.make == some c.make) = true := by rw [am, am']; rfl
  obtain ⟨a12a, a12b⟩ := a12
  unfold joinedFacts
  rw [e1, e2, e3, e4, e5, e6, a1a, a1b, a1c, a2a, a2, a3a, a3b, a3c, a3d, b1, b2, b3, b4, b5, a6a, a6b, a7a, a7b, a8, a9, a10, a11a, a11c, a12a, a12b]
  simp only [Bool.true_and, Bool.and_true]
  exact a11b
end Go.Lb
