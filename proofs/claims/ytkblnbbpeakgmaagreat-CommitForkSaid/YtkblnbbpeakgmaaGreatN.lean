/- A function does what its tree says: code, and the function as a whole. No statement of the seat is proved in this file. -/
import Derived.Test.YtkblnbbpeakgmaaGreatM
set_option linter.all false
namespace Go.Lb
section
variable {P : Program} {E : En}

def Ex.toExit : Ex → Exit
  | .normal => .normal
  | .exit id => .exit id
  | .ret => .ret

theorem updE_same {Ev : Nat → List Value → List Asrt → Prop} {n : Nat} {X : List Value → List Asrt → Prop} : updE Ev n X n = X := by simp [updE]
theorem updE_other {Ev : Nat → List Value → List Asrt → Prop} {n m : Nat} {X : List Value → List Asrt → Prop} (h : m ≠ n) : updE Ev n X m = Ev m := by simp [updE, h]

def Hκ (P : Program) (E : En) (ro : HP) (as : List Nat) (L : Nat) (T : List SV) (κ : Ex → List SV → Tr) (R : Value → List Asrt → Prop) (Ev : Nat → List Value → List Asrt → Prop) (Q : Post) : Prop :=
  ∀ Ev', (∀ n, n < L → Ev' n = Ev n) → ∀ e T' S', Agree as T T' → WT P E.hb (κ e T') false ro S' R Ev' → Cl ro (Q e.toExit (act T')) S'

theorem Hκ.self {ro : HP} {as : List Nat} {L : Nat} {T : List SV} {κ : Ex → List SV → Tr} {R : Value → List Asrt → Prop} {Ev : Nat → List Value → List Asrt → Prop} {Q : Post} (h : Hκ P E ro as L T κ R Ev Q)
    {e : Ex} {T' : List SV} {S' : List Asrt} (ha : Agree as T T') (hw : WT P E.hb (κ e T') false ro S' R Ev) : Cl ro (Q e.toExit (act T')) S' := h Ev (fun _ _ => rfl) e T' S' ha hw

theorem leE_refl (A : Nat → List Value → List Asrt → Prop) : leE A A := fun _ _ _ h => h

theorem thenS_ex {next : Act → List Asrt → Prop} {Q : Post} {e : Ex} {a : Act} {S : List Asrt} (h1 : e = .normal → next a S) (h2 : e ≠ .normal → Q e.toExit a S) : thenS next Q e.toExit a S := by
  cases e with
  | normal => exact h1 rfl
  | exit id => exact h2 (by simp)
  | ret => exact h2 (by simp)

theorem inBlockS_ex {id : Nat} {Q : Post} {e : Ex} {a : Act} {S : List Asrt} (h1 : (e = .normal ∨ e = .exit id) → Q .normal a S) (h2 : e ≠ .normal → e ≠ .exit id → Q e.toExit a S) : inBlockS id Q e.toExit a S := by
  cases e with
  | normal => exact h1 (.inl rfl)
  | exit i =>
    simp only [Ex.toExit, inBlockS]
    split
    · rename_i h; subst h; exact h1 (.inr rfl)
    · rename_i h; exact h2 (by simp) (by intro e; cases e; exact h rfl)
  | ret => exact h2 (by simp) (by simp)

theorem inB_eq {id : Nat} {Q : Post} {a : Act} : inBlockS id Q (.exit id) a = Q .normal a := by funext S; simp [inBlockS]
theorem inB_ne {id i : Nat} {Q : Post} {a : Act} (h : ¬ i = id) : inBlockS id Q (.exit i) a = Q (.exit i) a := by funext S; simp [inBlockS, h]

theorem asgO_pick {ops : Array Oper} {c : List Nat} {s : Nat} (h : s ∈ asgO (pick2 ops c)) : s ∈ asgO ops.toList := by
  simp only [asgO, pick2, List.mem_filterMap] at h ⊢
  obtain ⟨o, ⟨i, _, hi⟩, hd⟩ := h
  exact ⟨o, by simpa using Array.mem_of_getElem? hi, hd⟩

theorem block_ok {H : Hints} {ro : HP} {R : Value → List Asrt → Prop} {c : Code} {id : Nat} (ih : ∀ (L : Nat) (T : List SV) (κ : Ex → List SV → Tr) (Ev : Nat → List Value → List Asrt → Prop) (S : List Asrt) (Q : Post),
      Hκ P E ro (asg c) L T κ R Ev Q → WT P E.hb (denC E H c L T κ) false ro S R Ev → SW P ro c Q (act T) S)
    {L : Nat} {T : List SV} {κ : Ex → List SV → Tr} {Ev : Nat → List Value → List Asrt → Prop} {S : List Asrt} {Q : Post} (hκ : Hκ P E ro (asg c) L T κ R Ev Q)
    (h : WT P E.hb (match H.lookup id with
      | some hs => .join L (denC E H c (L + 1) T fun e T' => match e with
          | .normal => .fin L (slotsV T' hs)
          | .exit i => if i = id then .fin L (slotsV T' hs) else κ (.exit i) T'
          | .ret => κ .ret T') (fun vs j => κ .normal (loadT T (asg c) hs vs j))
      | none => denC E H c L T fun e T' => match e with
          | .exit i => if i = id then κ .normal T' else κ (.exit i) T'
          | e => κ e T') false ro S R Ev) : SW P ro (.block id c) Q (act T) S := by
  refine SW_block ?_
  split at h
  · rename_i hz _
    refine ih (L + 1) T _ _ S _ ?_ h
    intro Ev' hEv e T' S' ag hw
    have hlow : ∀ n, n < L → Ev' n = Ev n := fun n hn => by rw [hEv n (by omega), updE_other (by omega)]
    have fin : WT P E.hb (.fin L (slotsV T' hz)) false ro S' R Ev' → Cl ro (Q .normal (act T')) S' := by
      intro hw'
      refine Cl.bind hw' fun S3 hw' => ?_
      rw [hEv L (by omega), updE_same] at hw'
      have hw' := hw' (fun s => (T'.getD s (.lit undef)).val)
      rw [← act_of_vals (loadT_vals (hz := hz) ag)]
      exact hκ.self (e := .normal) (loadT_agree T (asg c) hz _ _) hw'
    cases e with
    | normal => exact fin hw
    | exit i =>
      simp only at hw
      show Cl ro (inBlockS id Q (.exit i) (act T')) S'
      split at hw
      · rename_i hi; subst hi; simp only [inB_eq]; exact fin hw
      · rename_i hi; simp only [inB_ne hi]; exact hκ Ev' hlow (.exit i) T' S' ag hw
    | ret => exact hκ Ev' hlow .ret T' S' ag hw
  · refine ih L T _ _ S _ ?_ h
    intro Ev' hEv e T' S' ag hw
    cases e with
    | normal => exact hκ Ev' hEv .normal T' S' ag hw
    | exit i =>
      simp only at hw
      show Cl ro (inBlockS id Q (.exit i) (act T')) S'
      split at hw
      · rename_i hi; subst hi; simp only [inB_eq]; exact hκ Ev' hEv .normal T' S' ag hw
      · rename_i hi; simp only [inB_ne hi]; exact hκ Ev' hEv (.exit i) T' S' ag hw
    | ret => exact hκ Ev' hEv .ret T' S' ag hw

variable (hE : EnOk P E) (hm : P.follows .mixedOrders = true)
include hE hm

theorem denC_ok (H : Hints) {ro : HP} {R : Value → List Asrt → Prop} : ∀ (c : Code) (L : Nat) (T : List SV) (κ : Ex → List SV → Tr) (Ev : Nat → List Value → List Asrt → Prop) (S : List Asrt) (Q : Post),
    Hκ P E ro (asg c) L T κ R Ev Q → WT P E.hb (denC E H c L T κ) false ro S R Ev → SW P ro c Q (act T) S
  | .skip, L, T, κ, Ev, S, Q, hκ, h => SW.of_cl (SW_skip (hκ.self (e := .normal) (Agree.refl _ _) h))
  | .exit id, L, T, κ, Ev, S, Q, hκ, h => SW.of_cl (SW_exit (hκ.self (e := .exit id) (Agree.refl _ _) h))
  | .ret, L, T, κ, Ev, S, Q, hκ, h => SW.of_cl (SW_ret (hκ.self (e := .ret) (Agree.refl _ _) h))
  | .region id ops false, L, T, κ, Ev, S, Q, hκ, h => by
    refine XOps.region ?_
    have := denL_ok hE (d := false) (ops := ops) (κ := κ .normal) ops.toList T S h
    refine XOps.mono ?_ _ _ _ this
    rintro a S' ⟨T', rfl, ag, h'⟩
    exact hκ.self (e := .normal) ag h'
  | .region id ops true, L, T, κ, Ev, S, Q, hκ, h => by
    simp only [denC] at h
    split at h
    case isFalse => exact SW.cl (Cl.mono (fun _ h => h.elim) h)
    case isTrue hok =>
    generalize (H.lookup (3000 + id)).getD (List.range ops.size) = cb at *
    generalize (H.lookup (4000 + id)).getD [] = ct at *
    generalize (H.lookup (2000 + id)).getD [] = hz at *
    refine SW.cl (Cl.mono ?_ h)
    rintro S ⟨_, B, S2, hent, h⟩
    refine SW.ent hent ?_
    have hidx := hok
    unfold drawOk at hidx
    simp only [Bool.and_eq_true, List.all_eq_true, decide_eq_true_eq] at hidx
    have hlt : ∀ i ∈ cb ++ ct, i < ops.size := hidx.1.1.1.2.1
    refine SW_draw hm hok ?_
    intro ro' hle hbig
    have h := h ro' hle hbig
    have hx := denL_ok hE (d := true) (ro := ro') (ops := ops) (pick2 ops cb) T S2 h
    have hx : XOps P (cls E.ty) ops ro' (pick2 ops cb) (act T) S2 _ := hx
    refine XOps.toD cb _ _ (fun i hi => hlt i (by simp [hi])) (XOps.mono ?_ _ _ _ hx)
    rintro a S' ⟨T', rfl, ag, h'⟩
    refine Cl.mono ?_ h'
    rintro S3 ⟨_, h'⟩
    have h' := h' (fun s => (T'.getD s (.lit undef)).val)
    have ht := denL_ok hE (d := false) (ro := ro) (ops := ops) (κ := κ .normal) (pick2 ops ct) _ _ h'
    have hvals := loadT_vals (hz := hz) ag
    rw [act_of_vals hvals] at ht
    refine XOps.toD ct _ _ (fun i hi => hlt i (by simp [hi])) ?_
    refine XOps.mono ?_ _ _ _ ht
    rintro a S4 ⟨T'', rfl, ag2, h''⟩
    refine hκ.self (e := .normal) ?_ h''
    have a1 := (loadT_agree T (asgO (pick2 ops cb)) hz (slotsV T' hz) (fun s => (T'.getD s (.lit undef)).val)).trans ag2
    exact a1.sub fun s hs => by
      rcases List.mem_append.1 hs with h | h <;> exact asgO_pick h
  | .seq x y, L, T, κ, Ev, S, Q, hκ, h => by
    refine SW_seq ?_
    simp only [denC] at h
    split at h
    · rename_i hz _
      refine denC_ok H x (L + 1) T _ _ S _ ?_ h
      intro Ev' hEv e T' S' ag hw
      cases e with
      | normal =>
        refine Cl.mono ?_ hw
        intro S'' hw
        rw [hEv L (by omega), updE_same] at hw
        have hw := hw (fun s => (T'.getD s (.lit undef)).val)
        show SW P ro y Q (act T') S''
        rw [← act_of_vals (loadT_vals (hz := hz) ag)]
        refine denC_ok H y L _ κ Ev S'' Q ?_ hw
        intro Ev2 h2 e T2 S2 ag2 hw2
        exact hκ Ev2 h2 e T2 S2 ((loadT_agree T (asg x) hz _ _).trans ag2) hw2
      | exit id => exact hκ Ev' (fun n hn => by rw [hEv n (by omega), updE_other (by omega)]) (.exit id) T' S' (ag.sub fun s hs => by simp [asg, hs]) hw
      | ret => exact hκ Ev' (fun n hn => by rw [hEv n (by omega), updE_other (by omega)]) .ret T' S' (ag.sub fun s hs => by simp [asg, hs]) hw
    · refine denC_ok H x L T _ _ S _ ?_ h
      intro Ev' hEv e T' S' ag hw
      cases e with
      | normal =>
        refine Cl.intro (denC_ok H y L T' κ Ev' S' Q ?_ hw)
        intro Ev2 h2 e T2 S2 ag2 hw2
        exact hκ Ev2 (fun n hn => (h2 n hn).trans (hEv n hn)) e T2 S2 (ag.trans ag2) hw2
      | exit id => exact hκ Ev' hEv (.exit id) T' S' (ag.sub fun s hs => by simp [asg, hs]) hw
      | ret => exact hκ Ev' hEv .ret T' S' (ag.sub fun s hs => by simp [asg, hs]) hw
  | .cond c x y, L, T, κ, Ev, S, Q, hκ, h => by
    have hx : ∀ T1, vals T1 = vals T → Hκ P E ro (asg x) L T1 κ R Ev Q := fun T1 hT Ev' hEv e T' S' ag hw => hκ Ev' hEv e T' S' (((Agree.of_vals hT []).trans ag).sub fun s hs => by simp at hs; simp [asg, hs]) hw
    have hy : ∀ T1, vals T1 = vals T → Hκ P E ro (asg y) L T1 κ R Ev Q := fun T1 hT Ev' hEv e T' S' ag hw => hκ Ev' hEv e T' S' (((Agree.of_vals hT []).trans ag).sub fun s hs => by simp at hs; simp [asg, hs]) hw
    simp only [denC] at h
    split at h
    · rename_i t hc
      have hev : (act T).eval c = .bool t := by rw [act_eval]; unfold evT; rw [hc]; rfl
      refine SW_cond hev ?_ ?_
      · rintro rfl; exact denC_ok H x L T κ Ev S Q (hx T rfl) h
      · rintro rfl; exact denC_ok H y L T κ Ev S Q (hy T rfl) h
    · exact SW.cl (Cl.mono (fun _ h => h.elim) h)
    · rename_i v hc
      cases c with
      | tmp t =>
        refine SW.cl (Cl.mono ?_ h)
        rintro S ⟨b, rfl, h1, h2⟩
        have hev : (act T).eval (.tmp t) = .bool b := by rw [act_eval]; unfold evT; rw [hc]; rfl
        have hc' : T.getD t (.lit undef) = .dyn (.bool b) := hc
        refine SW_cond hev ?_ ?_
        · rintro rfl
          rw [← act_of_vals (refine_vals hc' rfl)]
          exact denC_ok H x L _ κ Ev S Q (hx _ (refine_vals hc' rfl)) (h1 rfl)
        · rintro rfl
          rw [← act_of_vals (refine_vals hc' rfl)]
          exact denC_ok H y L _ κ Ev S Q (hy _ (refine_vals hc' rfl)) (h2 rfl)
      | const v => exact SW.cl (Cl.mono (fun _ h => h.elim) h)
      | global g => exact SW.cl (Cl.mono (fun _ h => h.elim) h)
      | func f => exact SW.cl (Cl.mono (fun _ h => h.elim) h)
  | .block id (.loop body), L, T, κ, Ev, S, Q, hκ, h => by
    refine SW_block ?_
    simp only [denC] at h
    generalize (H.lookup id).getD [] = hz at *
    refine SW.cl (Cl.mono ?_ h)
    rintro S ⟨_, I, ⟨m0, hI0⟩, hround⟩
    have hag0 := loadT_vals (hz := hz) (Agree.refl (asg body) T)
    refine SW_loop (fun m a S => ∃ vs j, a = act (loadT T (asg body) hz vs j) ∧ I m vs S) (n := m0) ⟨_, _, (act_of_vals hag0).symm, hI0⟩ ?_
    rintro m a S1 ⟨vs, j, rfl, hI⟩
    have hw := hround m vs j S1 hI
    refine denC_ok H body (L + 2) _ _ _ S1 _ ?_ hw
    intro Ev' hEv e T' S'' ag hw'
    have agT : Agree (asg body) T T' := ((loadT_agree T (asg body) hz vs j).trans ag).sub fun s hs => by simpa using hs
    have hlow : ∀ n, n < L → Ev' n = Ev n := fun n hn => by rw [hEv n (by omega), updE_other (by omega), updE_other (by omega)]
    cases e with
    | normal =>
      refine Cl.mono ?_ hw'
      intro S3 hw'
      rw [hEv L (by omega), updE_other (by omega), updE_same] at hw'
      obtain ⟨m', hm', hI'⟩ := hw'
      exact ⟨m', hm', _, _, (act_of_vals (loadT_vals (hz := hz) agT)).symm, hI'⟩
    | exit i =>
      simp only at hw'
      show Cl ro (inBlockS id Q (.exit i) (act T')) S''
      split at hw'
      · rename_i hi
        subst hi
        refine Cl.bind hw' fun S3 hw' => ?_
        rw [hEv (L + 1) (by omega), updE_same] at hw'
        have hw' := hw' (fun s => (T'.getD s (.lit undef)).val)
        simp only [inB_eq]
        rw [← act_of_vals (loadT_vals (hz := hz) agT)]
        exact hκ.self (e := .normal) (loadT_agree T (asg body) hz _ _) hw'
      · rename_i hi
        simp only [inB_ne hi]
        exact hκ Ev' hlow (.exit i) T' S'' agT hw'
    | ret => exact hκ Ev' hlow .ret T' S'' agT hw'
  | .block id .skip, L, T, κ, Ev, S, Q, hκ, h => block_ok (denC_ok H .skip) hκ h
  | .block id (.seq x y), L, T, κ, Ev, S, Q, hκ, h => block_ok (denC_ok H (.seq x y)) hκ h
  | .block id (.cond x y z), L, T, κ, Ev, S, Q, hκ, h => block_ok (denC_ok H (.cond x y z)) hκ h
  | .block id (.block x y), L, T, κ, Ev, S, Q, hκ, h => block_ok (denC_ok H (.block x y)) hκ h
  | .block id (.region x y z), L, T, κ, Ev, S, Q, hκ, h => block_ok (denC_ok H (.region x y z)) hκ h
  | .block id (.rangeFunc x y z u), L, T, κ, Ev, S, Q, hκ, h => block_ok (denC_ok H (.rangeFunc x y z u)) hκ h
  | .block id (.exit x), L, T, κ, Ev, S, Q, hκ, h => block_ok (denC_ok H (.exit x)) hκ h
  | .block id (.scope x), L, T, κ, Ev, S, Q, hκ, h => block_ok (denC_ok H (.scope x)) hκ h
  | .block id (.label x), L, T, κ, Ev, S, Q, hκ, h => block_ok (denC_ok H (.label x)) hκ h
  | .block id (.goto x), L, T, κ, Ev, S, Q, hκ, h => block_ok (denC_ok H (.goto x)) hκ h
  | .block id .ret, L, T, κ, Ev, S, Q, hκ, h => block_ok (denC_ok H .ret) hκ h
  | .block id (.refuse x), L, T, κ, Ev, S, Q, hκ, h => block_ok (denC_ok H (.refuse x)) hκ h
  | .loop c, L, T, κ, Ev, S, Q, hκ, h => SW.cl (Cl.mono (fun _ h => h.elim) h)
  | .rangeFunc x y z u, L, T, κ, Ev, S, Q, hκ, h => SW.cl (Cl.mono (fun _ h => h.elim) h)
  | .scope c, L, T, κ, Ev, S, Q, hκ, h => SW.cl (Cl.mono (fun _ h => h.elim) h)
  | .label l, L, T, κ, Ev, S, Q, hκ, h => SW.cl (Cl.mono (fun _ h => h.elim) h)
  | .goto l, L, T, κ, Ev, S, Q, hκ, h => SW.cl (Cl.mono (fun _ h => h.elim) h)
  | .refuse l, L, T, κ, Ev, S, Q, hκ, h => SW.cl (Cl.mono (fun _ h => h.elim) h)

def resS (tmps : Array Value) : ResultVar → Sem Value
  | .tmp t => pure (tmps.getD t undef)
  | .cell a t => do loadVar t (← asAddr (tmps.getD a undef))

omit hE hm in
theorem results_run {fn : Func} {tmps : Array Value} {l : List Value} {w : World} (h : (fn.results.toList.mapM (resS tmps)).run P w = .ok l w) : (results fn tmps).run P w = .ok (retV l) w := by
  have e : results fn tmps = (do let vs ← fn.results.mapM (resS tmps); pure (if h : vs.size = 1 then vs[0] else .tuple vs)) := by
    unfold results
    rfl
  rw [e]
  simp only [Sem.run_bind, Array.mapM_eq_mapM_toList, Sem.run_map, h, Result.andThen_ok, Sem.run_pure]
  congr 1
  match l with
  | [] => rfl
  | [v] => rfl
  | a :: b :: l => simp [retV]

omit hm in
theorem denR_ok {ro : HP} {Q : Value → List Asrt → Prop} {Ev : Nat → List Value → List Asrt → Prop} {T : List SV} {F : Asrt} {w0 w : World} : ∀ (rs : List ResultVar) (acc : List Value) (S : List Asrt), WT P E.hb (denR E T rs acc) false ro S Q Ev → Hs ro S F w0 w →
    ∃ l, (rs.mapM (resS (act T).tmps)).run P w = .ok l w ∧ ∃ S', Q (retV (acc.reverse ++ l)) S' ∧ Hs ro S' F w0 w
  | [], acc, S, h, hw => by
    obtain ⟨S', ⟨_, q⟩, hw⟩ := h F w0 w hw
    exact ⟨[], by simp, S', by rw [List.append_nil]; exact q, hw⟩
  | .tmp t :: rs, acc, S, h, hw => by
    obtain ⟨l, hl, S', q, hs⟩ := denR_ok rs _ S h hw
    have ht : (act T).tmps.getD t undef = (T.getD t (.lit undef)).val := act_eval T (.tmp t)
    refine ⟨(T.getD t (.lit undef)).val :: l, ?_, S', by
      rw [List.reverse_cons, List.append_assoc] at q
      exact q, hs⟩
    simp only [List.mapM_cons, resS, Sem.run_bind, Sem.run_pure, Result.andThen_ok, ht, hl]
  | .cell a t :: rs, acc, S, h, hw => by
    simp only [denR] at h
    split at h
    · rename_i i hi
      obtain ⟨S, ⟨v, hv, h⟩, hw⟩ := h F w0 w hw
      obtain ⟨l, hl, S', q, hs⟩ := denR_ok rs _ S h hw
      have ha : (act T).tmps.getD a undef = (T.getD a (.lit undef)).val := act_eval T (.tmp a)
      have hr := rN_loadVar (P := P) (hE.ty _ _ hi) (hv w ⟨F, hw.2⟩)
      refine ⟨v :: l, ?_, S', by
        rw [List.reverse_cons, List.append_assoc] at q
        exact q, hs⟩
      simp only [List.mapM_cons, resS, Sem.run_bind, ha]
      -- an address to load from
      have hld : ∃ ad, (T.getD a (.lit undef)).val = .pointer (some ad) := by
        have := hv w ⟨F, hw.2⟩
        generalize (T.getD a (.lit undef)).val = y at this
        cases y <;> simp only [Rd.ev] at this <;> try cases this
        rename_i p
        cases p with
        | none => simp only [Rd.ev] at this; cases this
        | some ad => exact ⟨ad, rfl⟩
      obtain ⟨ad, had⟩ := hld
      rw [had] at hr ⊢
      simp only [Instr.loadAt, Instr.sureAddr, Sem.run_bind, Sem.run_pure, Result.andThen_ok] at hr
      simp only [asAddr, Sem.run_pure, Result.andThen_ok, hr, hl]
    · obtain ⟨_, h, _⟩ := h F w0 w hw
      exact h.elim

/-- A FUNCTION DOES WHAT ITS TREE SAYS -/
theorem tri_of_tree {H : Hints} {f : Nat} {fn : Func} {args : List Value} {ro : HP} {S : List Asrt} {Q : Value → List Asrt → Prop} (hf : P.funcs[f]? = some fn)
    (h : WT P E.hb (denF E H fn args) false ro S Q fun _ _ _ => False) : Tri P ro f ⟨args⟩ S Q := by
  intro F w0 w hw
  unfold denF at h
  split at h
  · obtain ⟨_, h, _⟩ := h F w0 w hw
    exact h.elim
  · rename_i c hc
    refine calls_of_wp hf hc ?_
    have hact : ({ tmps := (⟨args⟩ : Array Value) ++ Array.replicate (fn.ntmps - (⟨args⟩ : Array Value).size) undef, defers := [] } : Act) = act (args.map .dyn ++ List.replicate (fn.ntmps - args.length) (.lit undef)) := by
      simp only [act, List.map_append, List.map_map, List.map_replicate, SV.val]
      congr 1
      apply Array.ext'
      simp [Function.comp_def, SV.val]
    rw [hact]
    have := denC_ok hE hm H c 0 _ _ _ S (fun e a S => (e = .normal ∨ e = .ret) ∧ ∃ T Ev, a = act T ∧ WT P E.hb (denR E T fn.results.toList []) false ro S Q Ev) ?_ h F w0 w hw
    · refine wp_mono this ?_
      rintro e a w' ⟨S', ⟨he, T, Ev, rfl, hr⟩, hs⟩
      obtain ⟨l, hl, S'', q, hs⟩ := denR_ok hE fn.results.toList [] S' hr hs
      have hfin : (act T).defers = [] ∧ ∃ v, (results fn (act T).tmps).run P w' = .ok v w' ∧ ∃ v' S', Ending.returned v = .returned v' ∧ Q v' S' ∧ Hs ro S' F w0 w' :=
        ⟨rfl, _, results_run hl, _, S'', rfl, q, hs⟩
      rcases he with rfl | rfl
      · exact hfin
      · exact hfin
    · intro Ev' hEv e T' S' ag hw'
      cases e with
      | normal => exact Cl.intro ⟨.inl rfl, T', Ev', rfl, hw'⟩
      | exit id => exact Cl.mono (fun _ h => h.elim) hw'
      | ret => exact Cl.intro ⟨.inr rfl, T', Ev', rfl, hw'⟩

end
end Go.Lb
