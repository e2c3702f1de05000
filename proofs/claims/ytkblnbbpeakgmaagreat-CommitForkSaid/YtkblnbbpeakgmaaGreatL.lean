/- A function does what its tree says. No statement of the seat is proved in this file. -/
import Derived.Test.YtkblnbbpeakgmaaGreatK
set_option linter.all false
namespace Go.Lb

section
variable {P : Program} {hb : Nat → Bool}

theorem WT.ent : ∀ (t : Tr) {d : Bool} {ro : HP} {S S' : List Asrt} {R : Value → List Asrt → Prop} {Ev : Nat → List Value → List Asrt → Prop}, Ent S S' → WT P hb t d ro S' R Ev → WT P hb t d ro S R Ev
  | .ret v, _, _, _, _, _, _, e, h => Cl.ent e h
  | .fin n vs, _, _, _, _, _, _, e, h => Cl.ent e h
  | .pu p k, _, _, _, _, _, _, e, h => Cl.ent e h
  | .rd r k, _, _, _, _, _, _, e, h => Cl.ent e h
  | .al a k, _, _, _, _, _, _, e, h => Cl.ent e h
  | .hv h k, _, _, _, _, _, _, e, x => fun F w0 w hs => x F w0 w (hs.ent e)
  | .call f args k, _, _, _, _, _, _, e, x => Cl.ent e x
  | .callv g args k, _, _, _, _, _, _, e, x => Cl.ent e x
  | .inv r m args k, _, _, _, _, _, _, e, x => Cl.ent e x
  | .ite c t u, _, _, _, _, _, _, e, x => Cl.ent e x
  | .loop n vs body k, _, _, _, _, _, _, e, x => Cl.ent e x
  | .join n p k, _, _, _, _, _, _, e, x => WT.ent p e x
  | .draw n p k, _, _, _, _, _, _, e, x => Cl.ent e x
  | .bad, _, _, _, _, _, _, e, x => Cl.ent e x

/-- a state may be looked into at any place -/
theorem WT.cl : ∀ (t : Tr) {d : Bool} {ro : HP} {S : List Asrt} {R : Value → List Asrt → Prop} {Ev : Nat → List Value → List Asrt → Prop}, Cl ro (fun S => WT P hb t d ro S R Ev) S → WT P hb t d ro S R Ev
  | .ret v, _, _, _, _, _, h => Cl.bind h fun _ x => x
  | .fin n vs, _, _, _, _, _, h => Cl.bind h fun _ x => x
  | .pu p k, _, _, _, _, _, h => Cl.bind h fun _ x => x
  | .rd r k, _, _, _, _, _, h => Cl.bind h fun _ x => x
  | .al a k, _, _, _, _, _, h => Cl.bind h fun _ x => x
  | .hv y k, _, _, _, _, _, h => fun F w0 w hs => let ⟨_, x, r⟩ := h F w0 w hs; x F w0 w r
  | .call f args k, _, _, _, _, _, h => Cl.bind h fun _ x => x
  | .callv g args k, _, _, _, _, _, h => Cl.bind h fun _ x => x
  | .inv r m args k, _, _, _, _, _, h => Cl.bind h fun _ x => x
  | .ite c t u, _, _, _, _, _, h => Cl.bind h fun _ x => x
  | .loop n vs body k, _, _, _, _, _, h => Cl.bind h fun _ x => x
  | .join n p k, _, _, _, _, _, h => WT.cl p h
  | .draw n p k, _, _, _, _, _, h => Cl.bind h fun _ x => x
  | .bad, _, _, _, _, _, h => Cl.bind h fun _ x => x

def leE (A B : Nat → List Value → List Asrt → Prop) : Prop := ∀ n vs S, A n vs S → B n vs S
theorem leE_upd {A B : Nat → List Value → List Asrt → Prop} {n : Nat} {X Y : List Value → List Asrt → Prop} (h : leE A B) (h' : ∀ vs S, X vs S → Y vs S) : leE (updE A n X) (updE B n Y) := by
  intro m vs S hx
  unfold updE at *
  split
  · rename_i e; rw [if_pos e] at hx; exact h' _ _ hx
  · rename_i e; rw [if_neg e] at hx; exact h _ _ _ hx

theorem WT.mono : ∀ (t : Tr) {d : Bool} {ro : HP} {S : List Asrt} {R R' : Value → List Asrt → Prop} {Ev Ev' : Nat → List Value → List Asrt → Prop}, (∀ v S, R v S → R' v S) → leE Ev Ev' → WT P hb t d ro S R Ev → WT P hb t d ro S R' Ev'
  | .ret v, _, _, _, _, _, _, _, hr, _, h => Cl.mono (fun _ ⟨a, b⟩ => ⟨a, hr _ _ b⟩) h
  | .fin n vs, _, _, _, _, _, _, _, _, he, h => Cl.mono (fun _ b => he _ _ _ b) h
  | .pu p k, _, _, _, _, _, _, _, hr, he, h => Cl.mono (fun _ ⟨v, a, b⟩ => ⟨v, a, WT.mono (k v) hr he b⟩) h
  | .rd r k, _, _, _, _, _, _, _, hr, he, h => Cl.mono (fun _ ⟨v, a, b⟩ => ⟨v, a, WT.mono (k v) hr he b⟩) h
  | .al a k, _, _, _, _, _, _, _, hr, he, h => Cl.mono (fun _ ⟨o, f, a, x⟩ => ⟨o, f, a, fun b => WT.mono (k (f b)) hr he (x b)⟩) h
  | .hv h k, _, _, _, _, _, _, _, hr, he, x => fun F w0 w hs => let ⟨v, w', S', h1, h2, h3⟩ := x F w0 w hs; ⟨v, w', S', h1, h2, WT.mono (k v) hr he h3⟩
  | .call f args k, _, _, _, _, _, _, _, hr, he, h => Cl.mono (fun _ x => Tri.mono x fun v S' h => WT.mono (k v) hr he h) h
  | .callv g args k, _, _, _, _, _, _, _, hr, he, h => Cl.mono (fun _ ⟨f, fs, cap, h1, h2, x⟩ => ⟨f, fs, cap, h1, h2, Tri.mono x fun v S' h => WT.mono (k v) hr he h⟩) h
  | .inv r m args k, _, _, _, _, _, _, _, hr, he, h => Cl.mono (fun _ ⟨t, a, f, h1, h2, h3, x⟩ => ⟨t, a, f, h1, h2, h3, Tri.mono x fun v S' h => WT.mono (k v) hr he h⟩) h
  | .ite c t u, _, _, _, _, _, _, _, hr, he, h => Cl.mono (fun _ ⟨b, h, x, y⟩ => ⟨b, h, fun hb => WT.mono t hr he (x hb), fun hb => WT.mono u hr he (y hb)⟩) h
  | .loop n vs body k, _, _, _, _, _, _, _, hr, he, h => Cl.mono (fun _ ⟨h, I, hi, x⟩ => ⟨h, I, hi, fun m vs j S' hI => WT.mono (body vs j) hr (leE_upd (leE_upd he fun _ _ h => h) fun vs' S'' h j => WT.mono (k vs' j) hr he (h j)) (x m vs j S' hI)⟩) h
  | .join n p k, _, _, _, _, _, _, _, hr, he, x => WT.mono p hr (leE_upd he fun vs S' h j => WT.mono (k vs j) hr he (h j)) x
  | .draw n p k, _, _, _, _, _, _, _, hr, he, h => Cl.mono (fun _ ⟨h, B, S2, e', x⟩ => ⟨h, B, S2, e', fun ro' h1 h2 => WT.mono p (fun _ _ h => h) (fun m vs S' ⟨h3, h4⟩ => ⟨h3, fun j => WT.mono (k vs j) hr he (h4 j)⟩) (x ro' h1 h2)⟩) h
  | .bad, _, _, _, _, _, _, _, _, _, h => h

/-! ### of a state that holds somewhere -/
section
variable {d : Bool} {ro : HP} {S : List Asrt} {R : Value → List Asrt → Prop} {Ev : Nat → List Value → List Asrt → Prop}

theorem WT.pu_inv {p : Pu} {k : Value → Tr} (hs : Sat ro S) (h : WT P hb (.pu p k) d ro S R Ev) : ∃ v, p.ev = some v ∧ WT P hb (k v) d ro S R Ev := by
  obtain ⟨F, w0, w, hw⟩ := hs
  obtain ⟨_, ⟨v, hv, _⟩, _⟩ := h F w0 w hw
  refine ⟨v, hv, WT.cl _ fun F w0 w hw => ?_⟩
  obtain ⟨S', ⟨v', hv', x⟩, hs'⟩ := h F w0 w hw
  rw [hv] at hv'
  cases hv'
  exact ⟨S', x, hs'⟩

theorem WT.rd_inv {r : Rd} {k : Value → Tr} (hs : Sat ro S) (h : WT P hb (.rd r k) true ro S R Ev) : ∃ v, (∀ w, Has ro w → r.ev (hof w) = some v) ∧ WT P hb (k v) true ro S R Ev := by
  obtain ⟨F, w0, w, hw⟩ := hs
  obtain ⟨_, ⟨v, hv, _⟩, _⟩ := h F w0 w hw
  refine ⟨v, fun w hw => hv w hw, WT.cl _ fun F w0 w hw => ?_⟩
  obtain ⟨S', ⟨v', hv', x⟩, hs'⟩ := h F w0 w hw
  have e1 := hv w hw.2.ro
  have e2 := hv' w hw.2.ro
  rw [e1] at e2
  cases e2
  exact ⟨S', x, hs'⟩

theorem WT.al_inv {a : Al} {k : Value → Tr} (hs : Sat ro S) (h : WT P hb (.al a k) d ro S R Ev) : ∃ o f, a.ev = some (o, f) ∧ ∀ b, WT P hb (k (f b)) d ro (one b (· = o) :: S) R Ev := by
  obtain ⟨F, w0, w, hw⟩ := hs
  obtain ⟨_, ⟨o, f, hv, _⟩, _⟩ := h F w0 w hw
  refine ⟨o, f, hv, fun b => WT.cl _ fun F w0 w hw => ?_⟩
  have hw' : Hs ro S (big ([one b (· = o)] ++ [F])) w0 w := Hs.split.2 (hw.ent (Ent.perm (by simpa using List.perm_append_singleton _ _ |>.symm)))
  obtain ⟨S', ⟨o', f', hv', x⟩, hs'⟩ := h _ w0 w hw'
  rw [hv] at hv'
  cases hv'
  exact ⟨_, x b, (Hs.split.1 hs').ent (Ent.perm (List.perm_append_singleton _ _))⟩

theorem WT.ite_inv {c : Value} {t e : Tr} (hs : Sat ro S) (h : WT P hb (.ite c t e) d ro S R Ev) : ∃ b, c = .bool b ∧ (b = true → WT P hb t d ro S R Ev) ∧ (b = false → WT P hb e d ro S R Ev) := by
  obtain ⟨F, w0, w, hw⟩ := hs
  obtain ⟨_, ⟨b, hv, _⟩, _⟩ := h F w0 w hw
  refine ⟨b, hv, ?_, ?_⟩
  · rintro rfl
    refine WT.cl _ fun F w0 w hw => ?_
    obtain ⟨S', ⟨b', hv', x, _⟩, hs'⟩ := h F w0 w hw
    rw [hv] at hv'
    cases hv'
    exact ⟨S', x rfl, hs'⟩
  · rintro rfl
    refine WT.cl _ fun F w0 w hw => ?_
    obtain ⟨S', ⟨b', hv', _, x⟩, hs'⟩ := h F w0 w hw
    rw [hv] at hv'
    cases hv'
    exact ⟨S', x rfl, hs'⟩
end

/-! ### slots -/
def act (T : List SV) : Act := { tmps := ⟨T.map SV.val⟩, defers := [] }
def vals (T : List SV) : List Value := T.map SV.val

theorem act_eval (T : List SV) (x : Operand) : (act T).eval x = evT T x := by
  cases x with
  | tmp t =>
    simp only [Act.eval, act, evT, svOf]
    simp only [Array.getD_eq_getD_getElem?, List.getD_eq_getElem?_getD, List.getElem?_toArray, List.getElem?_map]
    cases T[t]? <;> rfl
  | _ => rfl

theorem act_put (T : List SV) (d : Option Tmp) (s : SV) : (act T).put d s.val = act (setT T d s) := by
  cases d with
  | none => rfl
  | some d => simp [act, Act.put, setT, List.map_set]

def Agree (as : List Nat) (T T' : List SV) : Prop := T'.length = T.length ∧ ∀ s, s ∉ as → (vals T')[s]? = (vals T)[s]?
theorem Agree.refl (as : List Nat) (T : List SV) : Agree as T T := ⟨rfl, fun _ _ => rfl⟩
theorem Agree.trans {as bs : List Nat} {T T' T'' : List SV} (h : Agree as T T') (h' : Agree bs T' T'') : Agree (as ++ bs) T T'' :=
  ⟨h'.1.trans h.1, fun s hs => (h'.2 s (fun h => hs (by simp [h]))).trans (h.2 s (fun h => hs (by simp [h])))⟩
theorem Agree.sub {as bs : List Nat} {T T' : List SV} (h : Agree as T T') (hsub : ∀ s ∈ as, s ∈ bs) : Agree bs T T' := ⟨h.1, fun s hs => h.2 s fun h => hs (hsub s h)⟩
theorem Agree.set (T : List SV) (d : Option Tmp) (s : SV) : Agree d.toList T (setT T d s) := by
  cases d with
  | none => exact Agree.refl _ _
  | some d =>
    refine ⟨by simp [setT], fun i hi => ?_⟩
    simp only [Option.toList_some, List.mem_singleton] at hi
    simp only [vals, setT, List.map_set]
    rw [List.getElem?_set_ne (fun e => hi e.symm)]
theorem Agree.of_vals {T T' : List SV} (h : vals T' = vals T) (as : List Nat) : Agree as T T' := ⟨by simpa [vals] using congrArg List.length h, fun s _ => by rw [h]⟩

theorem sl_slots {T' : List SV} {hz : List Nat} {s : Nat} (h : hz.contains s = true) : sl (slotsV T' hz) (hz.idxOf s) = (T'.getD s (.lit undef)).val := by
  have hm : s ∈ hz := by simpa using h
  have hlt : hz.idxOf s < hz.length := List.idxOf_lt_length_of_mem hm
  simp [sl, slotsV, List.getD_eq_getElem?_getD, hlt]

theorem loadGo_vals {as hz : List Nat} {T' : List SV} : ∀ (T : List SV) (s : Nat), T'.length = s + T.length → (∀ i, i ∉ as → s ≤ i → (vals T')[i]? = (vals T)[i - s]?) →
    vals (loadGo as hz (slotsV T' hz) (fun s => (T'.getD s (.lit undef)).val) s T) = (vals T').drop s
  | [], s, hT, _ => by
    have : (vals T').drop s = [] := List.drop_eq_nil_of_le (by simp [vals]; simpa using Nat.le_of_eq hT)
    rw [this]
    rfl
  | x :: T, s, hT, ha => by
    have hlt : s < T'.length := by rw [hT]; simp
    have hlv : s < (vals T').length := by simpa [vals] using hlt
    have htail := loadGo_vals (as := as) (hz := hz) (T' := T') T (s + 1) (by simp at hT; omega) (fun i hi hsi => by
      have := ha i hi (by omega)
      rw [this]
      rw [show i - s = (i - (s + 1)) + 1 from by omega]
      rfl)
    have hg : (T'.getD s (.lit undef)).val = (vals T')[s] := by simp [hlt, vals]
    rw [List.drop_eq_getElem_cons hlv]
    simp only [vals, loadGo, List.map_cons, List.cons.injEq]
    refine ⟨?_, htail⟩
    by_cases hc : as.contains s = true
    · rw [if_pos hc]
      by_cases hh : hz.contains s = true
      · rw [if_pos hh, sl_slots hh]
        exact hg
      · rw [if_neg hh]
        exact hg
    · rw [if_neg hc]
      have := ha s (by simpa using hc) (Nat.le_refl _)
      simp [vals, hlt] at this
      simp only [List.getElem_map]
      exact this.symm

theorem loadT_vals {as hz : List Nat} {T T' : List SV} (h : Agree as T T') : vals (loadT T as hz (slotsV T' hz) (fun s => (T'.getD s (.lit undef)).val)) = vals T' := by
  have := loadGo_vals (as := as) (hz := hz) (T' := T') T 0 (by simp [h.1]) (fun i hi _ => by simpa using h.2 i hi)
  simpa [loadT] using this

theorem act_of_vals {T T' : List SV} (h : vals T = vals T') : act T = act T' := by simp only [act]; rw [show T.map SV.val = T'.map SV.val from h]

theorem loadGo_agree {as hz : List Nat} {vs : List Value} {j : Nat → Value} : ∀ (T : List SV) (s : Nat), (loadGo as hz vs j s T).length = T.length ∧ ∀ i, s + i ∉ as → (vals (loadGo as hz vs j s T))[i]? = (vals T)[i]?
  | [], s => ⟨rfl, fun _ _ => rfl⟩
  | x :: T, s => by
    obtain ⟨h1, h2⟩ := loadGo_agree (as := as) (hz := hz) (vs := vs) (j := j) T (s + 1)
    refine ⟨by simp [loadGo, h1], fun i hi => ?_⟩
    cases i with
    | zero =>
      have : s ∉ as := by simpa using hi
      simp [vals, loadGo, this]
    | succ i =>
      have := h2 i (by rw [show s + 1 + i = s + (i + 1) from by omega]; exact hi)
      simpa [vals, loadGo] using this
theorem loadT_agree (T : List SV) (as hz : List Nat) (vs : List Value) (j : Nat → Value) : Agree as T (loadT T as hz vs j) := by
  obtain ⟨h1, h2⟩ := loadGo_agree (as := as) (hz := hz) (vs := vs) (j := j) T 0
  exact ⟨h1, fun i hi => h2 i (by simpa using hi)⟩

/-- a slot whose value is known is known -/
theorem refine_vals {T : List SV} {d : Nat} {v : Value} {b : Bool} (h : T.getD d (.lit undef) = .dyn v) (hv : v = .bool b) : vals (T.set d (.lit (.bool b))) = vals T := by
  have hd : T[d]? = some (.dyn v) := by
    rw [List.getD_eq_getElem?_getD] at h
    cases hx : T[d]? with
    | none => rw [hx] at h; cases h
    | some y => rw [hx] at h; simp at h; rw [h]
  subst hv
  obtain ⟨hlt, hx⟩ := List.getElem?_eq_some_iff.1 hd
  simp only [vals, List.map_set, SV.val]
  apply List.ext_getElem
  · simp
  · intro i h1 h2
    rw [List.getElem_set]
    split
    · rename_i e; subst e; simp [hx, SV.val]
    · rfl

/-! ### operations in their order -/
def XOps (P : Program) (cf : Op → Nat) (ops : Array Oper) (ro : HP) : List Oper → Act → List Asrt → (Act → List Asrt → Prop) → Prop
  | [], a, S, K => Sat ro S → K a S
  | o :: l, a, S, K => Sat ro S → if Region.wanted o (yielded ops a.tmps) then DV P ro (cf o.op) (execOp a.eval o) S fun v S' => XOps P cf ops ro l (a.put o.dst v) S' K
    else XOps P cf ops ro l (a.put o.dst undef) S K

theorem XOps.mono {cf : Op → Nat} {ops : Array Oper} {ro : HP} {K K' : Act → List Asrt → Prop} (hk : ∀ a S, K a S → K' a S) : ∀ (l : List Oper) (a : Act) (S : List Asrt), XOps P cf ops ro l a S K → XOps P cf ops ro l a S K'
  | [], a, S, h => fun hs => hk _ _ (h hs)
  | o :: l, a, S, h => by
    intro hs
    have h := h hs
    split
    · rename_i hw; rw [if_pos hw] at h; exact DV.mono (fun v S' => XOps.mono hk l _ _) h
    · rename_i hw; rw [if_neg hw] at h; exact XOps.mono hk l _ _ h

theorem XOps.toD {cf : Op → Nat} {ops : Array Oper} {ro : HP} {K : Act → List Asrt → Prop} : ∀ (c : List Nat) (a : Act) (S : List Asrt), (∀ i ∈ c, i < ops.size) → XOps P cf ops ro (pick2 ops c) a S K → DOps P cf ops ro c a S K
  | [], a, S, _, h => h
  | i :: c, a, S, hc, h => by
    intro hs
    have hi := hc i (by simp)
    refine ⟨ops[i], by simp [hi], ?_⟩
    have hp : pick2 ops (i :: c) = ops[i] :: pick2 ops c := by simp [pick2, hi]
    rw [hp] at h
    have h := h hs
    split
    · rename_i hw; rw [if_pos hw] at h; exact DV.mono (fun v S' => XOps.toD c _ _ (fun i hi => hc i (by simp [hi]))) h
    · rename_i hw; rw [if_neg hw] at h; exact XOps.toD c _ _ (fun i hi => hc i (by simp [hi])) h

theorem XOps.region {ops : Array Oper} {ro : HP} {Q : Post} {id : Nat} {a : Act} {S : List Asrt} (h : XOps P (fun _ => 2) ops ro ops.toList a S fun a S => Cl ro (Q .normal a) S) : SW P ro (.region id ops false) Q a S := by
  intro F w0 w hw
  refine wp_region ?_
  have key : ∀ (l : List Oper) (k : Nat) (a : Act) (S : List Asrt) (w : World), l = ops.toList.drop k → XOps P (fun _ => 2) ops ro l a S (fun a S => Cl ro (Q .normal a) S) → Hs ro S F w0 w → wpOps P ops (lift ro F w0 Q) (List.range' k l.length) a w := by
    intro l
    induction l with
    | nil => intro k a S w _ h hw; exact h ⟨F, w0, w, hw⟩ F w0 w hw
    | cons o l ih =>
      intro k a S w hl h hw
      have ho : ops[k]? = some o := by
        have := congrArg (fun l => l[0]?) hl
        simp only [List.getElem?_cons_zero, List.getElem?_drop, Nat.add_zero] at this
        simpa using this.symm
      have hl' : l = ops.toList.drop (k + 1) := by
        have := congrArg List.tail hl
        simpa using this
      rw [List.length_cons, List.range'_succ]
      simp only [wpOps, ho]
      have h := h ⟨F, w0, w, hw⟩
      split
      · rename_i hwant
        rw [if_pos hwant] at h
        left
        refine Oper.wp_mono ?_ ((h F w0 w hw).wp)
        rintro a' w' ⟨v, rfl, S', h', hs'⟩
        exact ih (k + 1) _ S' w' hl' h' hs'
      · rename_i hwant
        rw [if_neg hwant] at h
        exact ih (k + 1) _ S w hl' h hw
  have := key ops.toList 0 a S w rfl h hw
  simpa [List.range_eq_range'] using this

end
end Go.Lb
