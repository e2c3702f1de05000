/- A function does what its tree says, closed. No statement of the seat is proved in this file. -/
import Derived.Test.YtkblnbbpeakgmaaGreatL
set_option linter.all false
namespace Go.Lb

def ndC : Nd → Nat
  | .va _ | .pu _ | .rd _ => 0
  | .al _ => 1
  | _ => 2

theorem trEq_c {i : TyI} {neg : Bool} {x y : Value} {nd : Nd} (h : trEq i neg x y = some nd) : ndC nd = 0 := by
  unfold trEq at h
  split at h <;> first | (cases h; rfl) | (cases h; done) | (simp only [Option.map_eq_some_iff] at h; obtain ⟨_, _, rfl⟩ := h; rfl)
theorem trBin_c {i : TyI} {op : BinOp} {x y : Value} {nd : Nd} (h : trBin i op x y = some nd) : ndC nd = 0 := by
  unfold trBin at h
  split at h
  · cases h; rfl
  · split at h
    · exact trEq_c h
    · exact trEq_c h
    · cases h
theorem trCall_c {ty : Nat → Option TyI} {mz : Nat → Option Nat} {hb : Nat → Bool} {ev : Operand → Value} {c : Call} {nd : Nd} (h : trCall ty mz hb ev c = some nd) : clsCall c = 2 ∨ clsCall c = ndC nd := by
  obtain ⟨callee, args, ats⟩ := c
  cases callee with
  | value f => exact .inl rfl
  | invoke r m => exact .inl rfl
  | builtin b =>
    cases b <;> first | (exact .inl rfl) | skip
    · simp only [trCall] at h
      split at h
      · split at h
        · cases h; exact .inr rfl
        · cases h
      · cases h
    · simp only [trCall] at h
      split at h
      · split at h
        · cases h; exact .inr rfl
        · cases h; exact .inr rfl
        · cases h; exact .inr rfl
        · cases h
      · cases h
    · simp only [trCall] at h
      split at h
      · cases h; exact .inr rfl
      · cases h

theorem trOp_c {ty : Nat → Option TyI} {kk : Nat → Option KK} {mz : Nat → Option Nat} {hb : Nat → Bool} {ev : Operand → Value} {op : Op} {nd : Nd} (h : trOp ty kk mz hb ev op = some nd) : cls ty op = 2 ∨ cls ty op = ndC nd := by
  cases op <;> simp only [trOp] at h <;> try (cases h; done)
  case move => cases h; exact .inr rfl
  case assign => cases h; exact .inr rfl
  case alloc e =>
    simp only [Option.bind_eq_some_iff] at h
    obtain ⟨i, _, h⟩ := h
    split at h
    · cases h; exact .inr rfl
    · cases h
  case box => cases h; exact .inr rfl
  case load => simp only [Option.map_eq_some_iff] at h; obtain ⟨_, _, rfl⟩ := h; exact .inr rfl
  case store => exact .inl rfl
  case nilCheck => cases h; exact .inr rfl
  case binOp =>
    simp only [Option.bind_eq_some_iff] at h
    obtain ⟨i, _, h⟩ := h
    exact .inr (trBin_c h).symm
  case unOp => cases h; exact .inr rfl
  case convert s d x =>
    split at h
    · rename_i h1 h2; cases h; right; simp only [cls, h2]; rfl
    · rename_i h1 h2; cases h; right; simp only [cls, h2]; rfl
    · rename_i h1 h2; cases h; left; simp only [cls, h2]
    · cases h
  case makeInterface => split at h <;> cases h <;> exact .inr rfl
  case makeFunc => cases h; exact .inr rfl
  case makeMap t r =>
    cases r with
    | none => simp only at h; cases h; exact .inr rfl
    | some r => simp only at h; cases h
  case makeSlice => split at h <;> cases h; exact .inr rfl
  case slice => split at h <;> cases h; exact .inr rfl
  case fieldAddr =>
    split at h
    · split at h
      · split at h <;> cases h; exact .inr rfl
      · cases h
    · cases h
  case field =>
    split at h
    · split at h
      · split at h <;> cases h; exact .inr rfl
      · cases h
    · cases h
  case indexAddr => split at h <;> cases h <;> exact .inr rfl
  case lookup =>
    split at h
    · simp only [Option.map_eq_some_iff] at h; obtain ⟨_, _, rfl⟩ := h; exact .inr rfl
    · cases h
  case mapUpdate => exact .inl rfl
  case insert => exact .inl rfl
  case typeAssert x xt t ok =>
    cases ok with
    | false => simp only at h; cases h
    | true =>
      simp only at h
      split at h
      · split at h <;> cases h; exact .inr rfl
      · cases h
  case extract => cases h; exact .inr rfl
  case build =>
    split at h
    · split at h
      · split at h
        · simp only [Option.map_eq_some_iff] at h; obtain ⟨_, _, rfl⟩ := h; exact .inr rfl
        · cases h
      · split at h
        · cases h; exact .inr rfl
        · cases h
      · cases h
    · cases h
  case buildSlice => split at h <;> cases h; exact .inr rfl
  case call c => exact trCall_c h

section
variable {P : Program} {E : En}

/-- the class by which an operation is taken: by its kind where the order is open, else any -/
def cfOf (E : En) (d : Bool) : Op → Nat := if d then cls E.ty else fun _ => 2

theorem DV.of_pure {d : Bool} {op : Op} {ro : HP} {s : Sem Next} {v : Value} {S : List Asrt} {K : Value → List Asrt → Prop} (hc : cls E.ty op = 2 ∨ cls E.ty op = 0)
    (hr : Ro ro P s v) (hk : K v S) : DV P ro (cfOf E d op) s S K := by
  have two : DV P ro 2 s S K := by
    intro F w0 w hw
    unfold opV
    rw [hr w hw.2.ro]
    exact ⟨S, hk, hw⟩
  cases d with
  | false => exact two
  | true =>
    rcases hc with h | h
    · simpa only [cfOf, if_true, h] using two
    · simp only [cfOf, if_true, h]
      exact ⟨v, hr, hk⟩

theorem DV.of_al {d : Bool} {op : Op} {ro : HP} {s : Sem Next} {f : Nat → Value} {ob : Obj} {S : List Asrt} {K : Value → List Asrt → Prop} (hc : cls E.ty op = 2 ∨ cls E.ty op = 1)
    (hr : Mk P s f ob) (hk : ∀ b, K (f b) (one b (· = ob) :: S)) : DV P ro (cfOf E d op) s S K := by
  have two : DV P ro 2 s S K := by
    intro F w0 w hw
    unfold opV
    rw [hr w]
    exact ⟨_, hk _, ⟨hw.1, hw.2.push ob⟩⟩
  cases d with
  | false => exact two
  | true =>
    rcases hc with h | h
    · simpa only [cfOf, if_true, h] using two
    · simp only [cfOf, if_true, h]
      exact ⟨f, ob, hr, hk⟩

theorem DV.of_hv {d : Bool} {op : Op} {ro : HP} {s : Sem Next} {S : List Asrt} {K : Value → List Asrt → Prop} (hc : d = false ∨ cls E.ty op = 2) (h : SOp P ro s S K) : DV P ro (cfOf E d op) s S K := by
  cases d with
  | false => exact h
  | true =>
    rcases hc with hc | hc
    · cases hc
    · simp only [cfOf, if_true, hc]; exact h

theorem ndK_ok {d : Bool} {op : Op} {ro : HP} {s : Sem Next} {nd : Nd} {S : List Asrt} {R : Value → List Asrt → Prop} {Ev : Nat → List Value → List Asrt → Prop} {k : Value → Tr} (hs : Sat ro S)
    (hc : cls E.ty op = 2 ∨ cls E.ty op = ndC nd) (hn : nd.ok P E.hb s) (h : WT P E.hb (ndK nd k) d ro S R Ev) : DV P ro (cfOf E d op) s S fun v S' => WT P E.hb (k v) d ro S' R Ev := by
  cases nd with
  | va v => exact DV.of_pure hc (fun w _ => hn w) h
  | pu p => obtain ⟨v, hv, h⟩ := WT.pu_inv hs h; exact DV.of_pure hc (fun w _ => hn v hv w) h
  | rd r =>
    cases d with
    | true => obtain ⟨v, hv, h⟩ := WT.rd_inv hs h; exact DV.of_pure hc (fun w hw => hn v w (hv w hw)) h
    | false =>
      refine DV.of_hv (.inl rfl) fun F w0 w hw => ?_
      obtain ⟨S', ⟨v, hv, h⟩, hs'⟩ := h F w0 w hw
      unfold opV
      rw [hn v w (hv w ⟨F, hs'.2⟩)]
      exact ⟨S', h, hs'⟩
  | al a => obtain ⟨o, f, ha, h⟩ := WT.al_inv hs h; exact DV.of_al hc (fun w => hn o f ha w) h
  | hv x =>
    refine DV.of_hv (.inr (by rcases hc with h | h <;> exact h)) fun F w0 w hw => ?_
    obtain ⟨v, w', S', h1, h2, h3⟩ := h F w0 w hw
    unfold opV
    rcases hn w v w' h1 with h | ⟨rfl, h⟩
    · rw [h]; exact ⟨S', h3, h2⟩
    · rw [h]; exact ⟨S', h3, h2⟩
  | call f args =>
    refine DV.of_hv (.inr (by rcases hc with h | h <;> exact h)) fun F w0 w hw => ?_
    obtain ⟨S', h, hs'⟩ := h F w0 w hw
    unfold opV
    rw [hn w]
    exact (h F w0 w hs').mono fun e w' ⟨v, S', h1, h2, h3⟩ => ⟨v, h1, S', h2, h3⟩
  | callv g args =>
    refine DV.of_hv (.inr (by rcases hc with h | h <;> exact h)) fun F w0 w hw => ?_
    obtain ⟨S', ⟨f, fs, cap, h1, h2, h⟩, hs'⟩ := h F w0 w hw
    unfold opV
    rw [hn f fs cap h1 h2 w]
    exact (h F w0 w hs').mono fun e w' ⟨v, S', h1, h2, h3⟩ => ⟨v, h1, S', h2, h3⟩
  | inv r m args =>
    refine DV.of_hv (.inr (by rcases hc with h | h <;> exact h)) fun F w0 w hw => ?_
    obtain ⟨S', ⟨t, a, f, h1, h2, h3, h⟩, hs'⟩ := h F w0 w hw
    unfold opV
    rw [hn t _ f h1 ⟨a, rfl⟩ h2 h3 w]
    exact (h F w0 w hs').mono fun e w' ⟨v, S', h1, h2, h3⟩ => ⟨v, h1, S', h2, h3⟩

theorem Cl.absurd {ro : HP} {S : List Asrt} (hs : Sat ro S) (h : Cl ro (fun _ => False) S) : False := by
  obtain ⟨F, w0, w, hw⟩ := hs
  obtain ⟨_, h, _⟩ := h F w0 w hw
  exact h
theorem DV.absurd {c : Nat} {ro : HP} {s : Sem Next} {S : List Asrt} {K : Value → List Asrt → Prop} (hs : Sat ro S) (h : Cl ro (fun _ => False) S) : DV P ro c s S K := (Cl.absurd hs h).elim

theorem evT_func (T : List SV) (f : Nat) : evT T (.func f) = .func (.func f) #[] #[] := rfl

theorem evalT (T : List SV) : (act T).eval = evT T := funext (act_eval T)

theorem pick_run {c a b : Operand} {t : Bool} {ρ : Operand → Value} {w : World} {dst : Option Tmp} {ty : Nat} {pos : String} {af : Array Edge} {g : Option (Nat × Bool)} (hc : ρ c = .bool t) :
    (execOp ρ ⟨dst, .pick c a b, ty, pos, af, g⟩).run P w = .ok (.value (ρ (if t then a else b))) w := by
  simp only [execOp, hc, asBool, Sem.run_bind, Sem.run_pure, Result.andThen_ok]
  cases t <;> rfl

theorem denO_ok (hE : EnOk P E) {d : Bool} {ro : HP} {o : Oper} {T : List SV} {κ : List SV → Tr} {S : List Asrt} {R : Value → List Asrt → Prop} {Ev : Nat → List Value → List Asrt → Prop}
    (hs : Sat ro S) (h : WT P E.hb (denO E o T κ) d ro S R Ev) : DV P ro (cfOf E d o.op) (execOp (act T).eval o) S fun v S' => ∃ T', act T' = (act T).put o.dst v ∧ Agree o.dst.toList T T' ∧ WT P E.hb (κ T') d ro S' R Ev := by
  rw [evalT]
  obtain ⟨dst, op, type, pos, after, guard⟩ := o
  unfold denO at h
  simp only at h ⊢
  split at h
  · rename_i x
    exact DV.of_pure (v := evT T x) (.inr rfl) (fun w _ => rfl) ⟨_, (act_put T dst (svOf T x)).symm, Agree.set _ _ _, h⟩
  · rename_i x
    exact DV.of_pure (v := evT T x) (.inr rfl) (fun w _ => rfl) ⟨_, (act_put T dst (svOf T x)).symm, Agree.set _ _ _, h⟩
  · rename_i c a b
    split at h
    · rename_i t hc
      have hc' : evT T c = .bool t := by unfold evT; rw [hc]; rfl
      exact DV.of_pure (v := evT T (if t then a else b)) (.inr rfl) (fun w _ => pick_run hc') ⟨_, (act_put T dst (svOf T (if t then a else b))).symm, Agree.set _ _ _, h⟩
    · exact DV.absurd hs h
    · rename_i v hc
      obtain ⟨t, hv, h1, h2⟩ := WT.ite_inv hs h
      have hc' : evT T c = .bool t := by unfold evT; rw [hc, hv]; rfl
      refine DV.of_pure (v := evT T (if t then a else b)) (.inr rfl) (fun w _ => pick_run hc') ⟨_, (act_put T dst (svOf T (if t then a else b))).symm, Agree.set _ _ _, ?_⟩
      cases t
      · exact h2 rfl
      · exact h1 rfl
  · split at h
    · exact DV.absurd hs h
    · rename_i nd hnd
      have hok := trOp_ok hE.ty hE.kk hE.mz hE.hb (evT_func T) (o := ⟨dst, op, type, pos, after, guard⟩) hnd
      refine DV.mono ?_ (ndK_ok hs (trOp_c hnd) hok h)
      intro v S' hw
      exact ⟨_, (act_put T dst (.dyn v)).symm, Agree.set _ _ _, hw⟩

theorem denL_ok (hE : EnOk P E) {d : Bool} {ro : HP} {ops : Array Oper} {κ : List SV → Tr} {R : Value → List Asrt → Prop} {Ev : Nat → List Value → List Asrt → Prop} : ∀ (l : List Oper) (T : List SV) (S : List Asrt),
    WT P E.hb (denL E (ops.toList.map (·.dst)) l T κ) d ro S R Ev →
    XOps P (cfOf E d) ops ro l (act T) S fun a S' => ∃ T', a = act T' ∧ Agree (asgO l) T T' ∧ WT P E.hb (κ T') d ro S' R Ev
  | [], T, S, h => fun _ => ⟨T, rfl, Agree.refl _ _, h⟩
  | o :: l, T, S, h => by
    intro hs
    have hsub : ∀ s ∈ o.dst.toList, s ∈ asgO (o :: l) := by
      intro s hs
      simp only [Option.mem_toList] at hs
      simp [asgO, hs]
    have hsub2 : ∀ s ∈ asgO l, s ∈ asgO (o :: l) := by
      intro s hs
      simp only [asgO, List.mem_filterMap] at hs ⊢
      obtain ⟨x, hx, e⟩ := hs
      exact ⟨x, by simp [hx], e⟩
    -- it is carried out
    have exec : ∀ (T1 : List SV), vals T1 = vals T → Region.wanted o (yielded ops (act T).tmps) = true → WT P E.hb (denO E o T1 fun T => denL E (ops.toList.map (·.dst)) l T κ) d ro S R Ev →
        (if Region.wanted o (yielded ops (act T).tmps) then DV P ro (cfOf E d o.op) (execOp (act T).eval o) S fun v S' => XOps P (cfOf E d) ops ro l ((act T).put o.dst v) S' fun a S' => ∃ T', a = act T' ∧ Agree (asgO (o :: l)) T T' ∧ WT P E.hb (κ T') d ro S' R Ev
          else XOps P (cfOf E d) ops ro l ((act T).put o.dst undef) S fun a S' => ∃ T', a = act T' ∧ Agree (asgO (o :: l)) T T' ∧ WT P E.hb (κ T') d ro S' R Ev) := by
      intro T1 hT1 hw h
      rw [if_pos hw]
      rw [← act_of_vals hT1]
      refine DV.mono ?_ (denO_ok hE hs h)
      rintro v S' ⟨T', e, ag, h'⟩
      rw [← e]
      refine XOps.mono ?_ l _ _ (denL_ok hE l T' S' h')
      rintro a S'' ⟨T'', ea, ag', h''⟩
      refine ⟨T'', ea, ?_, h''⟩
      have a1 : Agree (asgO (o :: l)) T T1 := Agree.of_vals hT1 _
      have a2 := ag.sub hsub
      have a3 := ag'.sub hsub2
      exact ⟨a3.1.trans (a2.1.trans a1.1), fun s hs => (a3.2 s hs).trans ((a2.2 s hs).trans (a1.2 s hs))⟩
    -- it is passed by
    have skip : ∀ (T1 : List SV), vals T1 = vals T → Region.wanted o (yielded ops (act T).tmps) = false → WT P E.hb (denL E (ops.toList.map (·.dst)) l (setT T1 o.dst (.lit undef)) κ) d ro S R Ev →
        (if Region.wanted o (yielded ops (act T).tmps) then DV P ro (cfOf E d o.op) (execOp (act T).eval o) S fun v S' => XOps P (cfOf E d) ops ro l ((act T).put o.dst v) S' fun a S' => ∃ T', a = act T' ∧ Agree (asgO (o :: l)) T T' ∧ WT P E.hb (κ T') d ro S' R Ev
          else XOps P (cfOf E d) ops ro l ((act T).put o.dst undef) S fun a S' => ∃ T', a = act T' ∧ Agree (asgO (o :: l)) T T' ∧ WT P E.hb (κ T') d ro S' R Ev) := by
      intro T1 hT1 hw h
      rw [if_neg (by simp [hw])]
      rw [← act_of_vals hT1]
      have e := act_put T1 o.dst (.lit undef)
      simp only [SV.val] at e
      rw [e]
      refine XOps.mono ?_ l _ _ (denL_ok hE l _ S h)
      rintro a S'' ⟨T'', ea, ag', h''⟩
      refine ⟨T'', ea, ?_, h''⟩
      have a1 : Agree (asgO (o :: l)) T T1 := Agree.of_vals hT1 _
      have a2 := (Agree.set T1 o.dst (.lit undef)).sub hsub
      have a3 := ag'.sub hsub2
      exact ⟨a3.1.trans (a2.1.trans a1.1), fun s hs => (a3.2 s hs).trans ((a2.2 s hs).trans (a1.2 s hs))⟩
    unfold denL at h
    split at h
    · rename_i hg
      exact exec T rfl (by simp [Region.wanted, hg]) h
    · rename_i j want hg
      split at h
      · exact (Cl.absurd hs h).elim
      · rename_i dd hd
        have hdd : (ops[j]?).bind (·.dst) = some dd := by
          simpa [Option.bind_map] using hd
        have hy : ∀ b, (vals T)[dd]? = some (.bool b) → yielded ops (act T).tmps j = some b := by
          intro b hb
          unfold yielded
          rw [hdd]
          simp only [act, Option.bind_some]
          have : ((⟨T.map SV.val⟩ : Array Value))[dd]? = some (.bool b) := by simpa [vals] using hb
          rw [this]
        have hw : ∀ b, (vals T)[dd]? = some (.bool b) → Region.wanted o (yielded ops (act T).tmps) = (b == want) := by
          intro b hb
          simp only [Region.wanted, hg, hy b hb]
          cases b <;> cases want <;> rfl
        have getv : ∀ (x : SV), T.getD dd (.lit undef) = x → x ≠ .lit undef → (vals T)[dd]? = some x.val := by
          intro x hx hn
          rw [List.getD_eq_getElem?_getD] at hx
          cases hq : T[dd]? with
          | none => rw [hq] at hx; exact absurd hx.symm hn
          | some y => rw [hq] at hx; simp at hx; subst hx; simp [vals, hq]
        split at h
        · rename_i b hb
          have hv := getv _ hb (by simp [undef])
          simp only [SV.val] at hv
          split at h
          · rename_i hbw
            exact exec T rfl (by rw [hw b hv]; exact hbw) h
          · rename_i hbw
            exact skip T rfl (by rw [hw b hv]; simpa using hbw) h
        · rename_i x hnb hx
          refine skip T rfl ?_ h
          have hyn : yielded ops (act T).tmps j = none := by
            unfold yielded
            rw [hdd]
            simp only [act, Option.bind_some]
            have : ((⟨T.map SV.val⟩ : Array Value))[dd]? = (T[dd]?).map SV.val := by simp
            rw [this]
            rw [List.getD_eq_getElem?_getD] at hx
            cases hq : T[dd]? with
            | none => rfl
            | some y =>
              rw [hq] at hx
              simp at hx
              subst hx
              simp only [Option.map_some, SV.val]
              cases x <;> first | rfl | (exact absurd rfl (hnb _))
          simp only [Region.wanted, hg, hyn]
          rfl
        · rename_i v hv
          obtain ⟨b, rfl, h1, h2⟩ := WT.ite_inv hs h
          have hv2 := getv _ hv (by simp)
          simp only [SV.val] at hv2
          cases b with
          | true =>
            have h := h1 rfl
            split at h
            · rename_i hwt; exact exec _ (refine_vals hv rfl) (by rw [hw true hv2, hwt]; rfl) h
            · rename_i hwt; exact skip _ (refine_vals hv rfl) (by rw [hw true hv2]; simpa using hwt) h
          | false =>
            have h := h2 rfl
            split at h
            · rename_i hwt; exact skip _ (refine_vals hv rfl) (by rw [hw false hv2, hwt]; rfl) h
            · rename_i hwt; exact exec _ (refine_vals hv rfl) (by rw [hw false hv2]; simpa using hwt) h

end
end Go.Lb
