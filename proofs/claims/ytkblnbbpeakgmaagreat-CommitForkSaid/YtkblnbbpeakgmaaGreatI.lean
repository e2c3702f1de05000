/- Regions that draw their order: one order serves all. No statement of the seat is proved in this file. -/
import Derived.Test.YtkblnbbpeakgmaaGreatH
set_option linter.all false
namespace Go.Lb

/-! ### which operation comes ahead of which -/
def befMask (acc : List Nat) (o : Oper) : Nat := o.after.toList.foldl (fun s e => if Region.binds .any e then s ||| 2 ^ e.on ||| acc.getD e.on 0 else s) 0
def befGo : List Oper → List Nat → List Nat
  | [], acc => acc
  | o :: os, acc => befGo os (acc ++ [befMask acc o])
def befs (ops : List Oper) : List Nat := befGo ops []

/-- kinds: 0: the world is only read; 1: memory is made; 2: all else -/
def clsCall (c : Call) : Nat := match c.callee with
  | .builtin .len | .builtin .cap | .builtin .min => 0
  | _ => 2
def cls (ty : Nat → Option TyI) : Op → Nat
  | .move _ | .assign _ | .pick .. | .load .. | .nilCheck _ | .binOp .. | .unOp .. | .makeInterface .. | .makeFunc .. | .slice .. | .fieldAddr .. | .field .. | .indexAddr .. | .lookup .. | .typeAssert .. | .extract .. | .build .. => 0
  | .convert _ d _ => (match (ty d).map TyI.k with
    | some (.slc ..) => 2
    | _ => 0)
  | .alloc _ | .box .. | .makeMap .. | .makeSlice .. | .buildSlice .. => 1
  | .call c => clsCall c
  | _ => 2

def swapOk (ty : Nat → Option TyI) (ops : Array Oper) (x y : Oper) : Bool :=
  x.apart ops y && (cls ty y.op != 2 || cls ty x.op == 0)

def pairOk (ty : Nat → Option TyI) (ops : Array Oper) (bs : List Nat) (i j : Nat) : Bool :=
  (bs.getD j 0).testBit i || (match ops[i]?, ops[j]? with
    | some x, some y => swapOk ty ops x y
    | _, _ => false)

def noSel : Op → Bool
  | .select .. => false
  | _ => true

def pairsOk (f : Nat → Nat → Bool) : List Nat → Bool
  | [] => true
  | i :: l => l.all (f i) && pairsOk f l

/-- the order cb, then ct, serves every order -/
def drawOk (ty : Nat → Option TyI) (ops : Array Oper) (cb ct : List Nat) : Bool :=
  ((cb ++ ct).length == ops.size) && (cb ++ ct).Nodup && ((cb ++ ct).all (· < ops.size) && (List.range ops.size).all ((cb ++ ct).contains ·)) && ops.toList.all (fun o => noSel o.op) &&
  ops.toList.zipIdx.all (fun (o, i) => o.after.toList.all fun e => !Region.binds .any e || e.on < i) &&
  (pairsOk (pairOk ty ops (befs ops.toList)) cb && pairsOk (fun i j => ((befs ops.toList).getD j 0).testBit i) ct && cb.all (fun i => ct.all fun j => ((befs ops.toList).getD j 0).testBit i))

section
variable {P : Program} {ops : Array Oper} {ty : Nat → Option TyI} {ro : HP}

/-- what an operation does, by its value -/
def opV (P : Program) (s : Sem Next) (w : World) (next : Value → World → Prop) : Prop :=
  match s.run P w with
  | .ok (.value v) w' => next v w'
  | .ok .skip w' => next undef w'
  | .ok (.enter f args) w' => Calls P f args w' fun e w'' => ∃ v, e = .returned v ∧ next v w''
  | _ => False

theorem opV.mono {s : Sem Next} {w : World} {n n' : Value → World → Prop} (h : opV P s w n) (i : ∀ v w', n v w' → n' v w') : opV P s w n' := by
  unfold opV at *
  split at h
  · exact i _ _ h
  · exact i _ _ h
  · exact Calls.mono h fun e w'' ⟨v, he, hn⟩ => ⟨v, he, i _ _ hn⟩
  · exact h.elim

theorem opV.some {s : Sem Next} {w : World} {n : Value → World → Prop} (h : opV P s w n) : ∃ v w', n v w' := by
  unfold opV at h
  split at h
  · exact ⟨_, _, h⟩
  · exact ⟨_, _, h⟩
  · obtain ⟨e, w'', fr, ⟨v, _, hn⟩, _⟩ := h []; exact ⟨_, _, hn⟩
  · exact h.elim

theorem opV.wp {o : Oper} {a : Act} {w : World} {n : Value → World → Prop} {Q : Exit → Act → World → Prop} (h : opV P (execOp a.eval o) w n) : o.wp P a w (fun a' w' => ∃ v, a' = a.put o.dst v ∧ n v w') Q := by
  unfold opV at h
  unfold Oper.wp
  split at h
  · rename_i v w' hr; rw [hr]; exact ⟨v, rfl, h⟩
  · rename_i w' hr; rw [hr]; exact ⟨undef, rfl, h⟩
  · rename_i f args w' hr
    rw [hr]
    refine Calls.mono h ?_
    rintro e w'' ⟨v, rfl, hn⟩
    exact ⟨v, rfl, hn⟩
  · exact h.elim

def SOp (P : Program) (ro : HP) (s : Sem Next) (S : List Asrt) (K : Value → List Asrt → Prop) : Prop :=
  ∀ F w0 w, Hs ro S F w0 w → opV P s w fun v w' => ∃ S', K v S' ∧ Hs ro S' F w0 w'

def Sat (ro : HP) (S : List Asrt) : Prop := ∃ F w0 w, Hs ro S F w0 w
theorem Sat.ent {S S' : List Asrt} (h : Sat ro S) (e : Ent S S') : Sat ro S' := let ⟨F, w0, w, hs⟩ := h; ⟨F, w0, w, hs.ent e⟩
theorem Sat.push {S : List Asrt} (h : Sat ro S) (o : Obj) : ∃ b, Sat ro (one b (· = o) :: S) := by
  obtain ⟨F, w0, w, hs⟩ := h
  exact ⟨w.heap.size, F, w0, { w with heap := w.heap.push o }, ⟨hs.1, hs.2.push o⟩⟩

def Ro (ro : HP) (P : Program) (s : Sem Next) (v : Value) : Prop := ∀ w, Has ro w → s.run P w = .ok (.value v) w
def Mk (P : Program) (s : Sem Next) (f : Nat → Value) (ob : Obj) : Prop := ∀ w : World, s.run P w = .ok (.value (f w.heap.size)) { w with heap := w.heap.push ob }

theorem Ro.uniq {s : Sem Next} {v v' : Value} {S : List Asrt} (hs : Sat ro S) (h : Ro ro P s v) (h' : Ro ro P s v') : v = v' := by
  obtain ⟨F, w0, w, hw⟩ := hs
  have := (h w hw.2.ro).symm.trans (h' w hw.2.ro)
  injection this with e _
  injection e

theorem Mk.uniq {s : Sem Next} {f f' : Nat → Value} {ob ob' : Obj} (h : Mk P s f ob) (h' : Mk P s f' ob') : f = f' ∧ ob = ob' := by
  have key : ∀ w : World, f w.heap.size = f' w.heap.size ∧ w.heap.push ob = w.heap.push ob' := by
    intro w
    have := (h w).symm.trans (h' w)
    injection this with e1 e2
    injection e1 with e1
    injection e2 with e2
    exact ⟨e1, e2⟩
  refine ⟨funext fun n => ?_, ?_⟩
  · have := (key { (default : World) with heap := Array.replicate n default }).1
    simpa using this
  · have := (key default).2
    simpa using congrArg Array.back? this

/-- one step, by its kind -/
def DV (P : Program) (ro : HP) (c : Nat) (s : Sem Next) (S : List Asrt) (K : Value → List Asrt → Prop) : Prop :=
  match c with
  | 0 => ∃ v, Ro ro P s v ∧ K v S
  | 1 => ∃ f ob, Mk P s f ob ∧ ∀ b, K (f b) (one b (· = ob) :: S)
  | _ => SOp P ro s S K

theorem DV.mono {c : Nat} {s : Sem Next} {S : List Asrt} {K K' : Value → List Asrt → Prop} (hk : ∀ v S, K v S → K' v S) (h : DV P ro c s S K) : DV P ro c s S K' := by
  match c with
  | 0 => obtain ⟨v, h1, h2⟩ := h; exact ⟨v, h1, hk _ _ h2⟩
  | 1 => obtain ⟨f, ob, h1, h2⟩ := h; exact ⟨f, ob, h1, fun b => hk _ _ (h2 b)⟩
  | n + 2 => exact fun F w0 w hs => (h F w0 w hs).mono fun v w' ⟨S', k, r⟩ => ⟨S', hk _ _ k, r⟩

theorem DV.ent {c : Nat} {s : Sem Next} {S S' : List Asrt} {K : Value → List Asrt → Prop} (e : Ent S S') (hk : ∀ v X X', Ent X X' → K v X' → K v X) (h : DV P ro c s S' K) : DV P ro c s S K := by
  match c with
  | 0 => obtain ⟨v, h1, h2⟩ := h; exact ⟨v, h1, hk _ _ _ e h2⟩
  | 1 => obtain ⟨f, ob, h1, h2⟩ := h; exact ⟨f, ob, h1, fun b => hk _ _ _ (Ent.cons _ e) (h2 b)⟩
  | n + 2 => exact fun F w0 w hs => h F w0 w (hs.ent e)

/-- two steps change their places -/
theorem DV.swap {cx cy : Nat} {sx sy : Sem Next} {S : List Asrt} {K : Value → Value → List Asrt → Prop} (hk : ∀ u v X X', Ent X X' → K u v X' → K u v X) (hc : cy = 0 ∨ cy = 1 ∨ cx = 0) (hsat : Sat ro S)
    (h : DV P ro cx sx S fun u S1 => Sat ro S1 → DV P ro cy sy S1 fun v S2 => Sat ro S2 → K u v S2) :
    DV P ro cy sy S fun v S1 => Sat ro S1 → DV P ro cx sx S1 fun u S2 => Sat ro S2 → K u v S2 := by
  match cx, cy with
  | 0, 0 =>
    obtain ⟨u, hu, h⟩ := h
    obtain ⟨v, hv, h⟩ := h hsat
    exact ⟨v, hv, fun _ => ⟨u, hu, h⟩⟩
  | 1, 0 =>
    obtain ⟨f, ob, hm, h⟩ := h
    obtain ⟨b0, hb0⟩ := hsat.push ob
    obtain ⟨v, hv, _⟩ := h b0 hb0
    refine ⟨v, hv, fun _ => ⟨f, ob, hm, fun b hb => ?_⟩⟩
    obtain ⟨v', hv', h'⟩ := h b hb
    rw [hv.uniq hb hv']
    exact h' hb
  | n + 2, 0 =>
    obtain ⟨F, w0, w, hw⟩ := hsat
    obtain ⟨u, w', S1, h1, hs1⟩ := (h F w0 w hw).some
    obtain ⟨v, hv, _⟩ := h1 ⟨F, w0, w', hs1⟩
    refine ⟨v, hv, fun _ F w0 w hw => (h F w0 w hw).mono ?_⟩
    rintro u w' ⟨S1, h1, hs1⟩
    obtain ⟨v', hv', h'⟩ := h1 ⟨F, w0, w', hs1⟩
    refine ⟨S1, fun hb => ?_, hs1⟩
    rw [hv.uniq hb hv']
    exact h' hb
  | 0, 1 =>
    obtain ⟨u, hu, h⟩ := h
    obtain ⟨f, ob, hm, h⟩ := h hsat
    exact ⟨f, ob, hm, fun b _ => ⟨u, hu, h b⟩⟩
  | 1, 1 =>
    obtain ⟨f, ob, hm, h⟩ := h
    obtain ⟨b0, hb0⟩ := hsat.push ob
    obtain ⟨g, oc, hg, _⟩ := h b0 hb0
    refine ⟨g, oc, hg, fun c hsc => ⟨f, ob, hm, fun b hsb => ?_⟩⟩
    have hb : Sat ro (one b (· = ob) :: S) := hsb.ent (Ent.cons _ (Ent.drop _ _))
    obtain ⟨g', oc', hg', h'⟩ := h b hb
    obtain ⟨rfl, rfl⟩ := hg.uniq hg'
    exact hk _ _ _ _ (Ent.swap _ _ _) (h' c (hsb.ent (Ent.swap _ _ _)))
  | n + 2, 1 =>
    have hsat0 := hsat
    obtain ⟨F, w0, w, hw⟩ := hsat
    obtain ⟨u, w', S1, h1, hs1⟩ := (h F w0 w hw).some
    obtain ⟨g, oc, hg, _⟩ := h1 ⟨F, w0, w', hs1⟩
    refine ⟨g, oc, hg, fun c _ F w0 w hw => ?_⟩
    have hw' : Hs ro S (big ([one c (· = oc)] ++ [F])) w0 w := Hs.split.2 (hw.ent (Ent.perm (by simpa using List.perm_append_singleton _ _ |>.symm)))
    refine (h _ w0 w hw').mono ?_
    rintro u w' ⟨S1, h1, hs1⟩
    obtain ⟨g', oc', hg', h'⟩ := h1 ⟨_, w0, w', hs1⟩
    obtain ⟨rfl, rfl⟩ := hg.uniq hg'
    refine ⟨one c (· = oc) :: S1, fun hsb => h' c hsb, ?_⟩
    have := Hs.split.1 hs1
    exact this.ent (Ent.perm (List.perm_append_singleton _ _))
  | 0, n + 2 =>
    obtain ⟨u, hu, h⟩ := h
    refine fun F w0 w hw => ((h hsat) F w0 w hw).mono ?_
    rintro v w' ⟨S1, h1, hs1⟩
    exact ⟨S1, fun _ => ⟨u, hu, h1⟩, hs1⟩
  | 1, n + 2 => exact absurd hc (by omega)
  | m + 2, n + 2 => exact absurd hc (by omega)

def DOps (P : Program) (cf : Op → Nat) (ops : Array Oper) (ro : HP) : List Nat → Act → List Asrt → (Act → List Asrt → Prop) → Prop
  | [], a, S, K => Sat ro S → K a S
  | i :: l, a, S, K => Sat ro S → ∃ o, ops[i]? = some o ∧
    (if Region.wanted o (yielded ops a.tmps) then DV P ro (cf o.op) (execOp a.eval o) S fun v S' => DOps P cf ops ro l (a.put o.dst v) S' K
     else DOps P cf ops ro l (a.put o.dst undef) S K)

theorem DOps.ent {cf : Op → Nat} {K : Act → List Asrt → Prop} (hk : ∀ a X X', Ent X X' → K a X' → K a X) : ∀ (l : List Nat) (a : Act) (S S' : List Asrt), Ent S S' → DOps P cf ops ro l a S' K → DOps P cf ops ro l a S K
  | [], a, S, S', e, h => fun hs => hk _ _ _ e (h (hs.ent e))
  | i :: l, a, S, S', e, h => fun hs => by
    obtain ⟨o, ho, h⟩ := h (hs.ent e)
    refine ⟨o, ho, ?_⟩
    split
    · rename_i hw; rw [if_pos hw] at h
      exact DV.ent e (fun v X X' e' k => DOps.ent hk l _ X X' e' k) h
    · rename_i hw; rw [if_neg hw] at h
      exact DOps.ent hk l _ S S' e h

theorem noSel_spec {o : Oper} (h : noSel o.op = true) : ∀ cs b, o.op ≠ .select cs b := by
  intro cs b e; rw [e] at h; cases h

theorem DOps.guard {cf : Op → Nat} {l : List Nat} {a : Act} {S : List Asrt} {K : Act → List Asrt → Prop} (h : Sat ro S → DOps P cf ops ro l a S K) : DOps P cf ops ro l a S K := by
  cases l with
  | nil => exact fun hs => h hs hs
  | cons i l => exact fun hs => h hs hs

theorem DOps.swap {i j : Nat} {x y : Oper} (hi : ops[i]? = some x) (hj : ops[j]? = some y) (hx : noSel x.op = true) (hy : noSel y.op = true) (hsw : swapOk ty ops x y = true) {l : List Nat} {a : Act} {S : List Asrt}
    {K : Act → List Asrt → Prop} (hk : ∀ a X X', Ent X X' → K a X' → K a X) (h : DOps P (cls ty) ops ro (i :: j :: l) a S K) : DOps P (cls ty) ops ro (j :: i :: l) a S K := by
  unfold swapOk at hsw
  simp only [Bool.and_eq_true, Bool.or_eq_true, bne_iff_ne, ne_eq, beq_iff_eq] at hsw
  obtain ⟨hap, hcl⟩ := hsw
  obtain ⟨p1, p2, p3⟩ := Oper.apart_spec hap
  have sx := noSel_spec hx
  have sy := noSel_spec hy
  have wy : ∀ (a : Act) v, Region.wanted y (yielded ops (a.put x.dst v).tmps) = Region.wanted y (yielded ops a.tmps) := fun a v => wanted_put y a x.dst v p1
  have wx : ∀ (a : Act) v, Region.wanted x (yielded ops (a.put y.dst v).tmps) = Region.wanted x (yielded ops a.tmps) := fun a v => wanted_put x a y.dst v p3
  have ey : ∀ (a : Act) v, execOp (a.put x.dst v).eval y = execOp a.eval y := fun a v => execOp_put y sy a x.dst v p1
  have ex : ∀ (a : Act) v, execOp (a.put y.dst v).eval x = execOp a.eval x := fun a v => execOp_put x sx a y.dst v p3
  have pc : ∀ (a : Act) v u, (a.put x.dst v).put y.dst u = (a.put y.dst u).put x.dst v := fun a v u => Act.put_comm a v u (fun d e => p2 d e)
  intro hsat
  obtain ⟨x', hx', h⟩ := h hsat
  rw [hi] at hx'
  cases hx'
  refine ⟨y, hj, ?_⟩
  have hcc : cls ty y.op = 0 ∨ cls ty y.op = 1 ∨ cls ty x.op = 0 := by
    rcases hcl with h | h
    · have : cls ty y.op ≤ 2 := by unfold cls; split <;> first | omega | (split <;> omega) | (unfold clsCall; split <;> omega)
      omega
    · exact .inr (.inr h)
  by_cases hwx : Region.wanted x (yielded ops a.tmps) = true
  · rw [if_pos hwx] at h
    by_cases hwy : Region.wanted y (yielded ops a.tmps) = true
    · rw [if_pos hwy]
      have h' : DV P ro (cls ty x.op) (execOp a.eval x) S fun u S1 => Sat ro S1 → DV P ro (cls ty y.op) (execOp a.eval y) S1 fun v S2 => Sat ro S2 → DOps P (cls ty) ops ro l ((a.put x.dst u).put y.dst v) S2 K := by
        refine DV.mono ?_ h
        intro u S1 h1 hs1
        obtain ⟨y', hy', h1⟩ := h1 hs1
        rw [hj] at hy'
        cases hy'
        rw [wy, if_pos hwy, ey] at h1
        exact DV.mono (fun v S2 h2 _ => h2) h1
      have h'' := DV.swap (K := fun u v S2 => DOps P (cls ty) ops ro l ((a.put x.dst u).put y.dst v) S2 K) (fun u v X X' e k => DOps.ent hk l _ X X' e k) hcc hsat h'
      refine DV.mono ?_ h''
      intro v S1 h1 hs1
      refine ⟨x, hi, ?_⟩
      rw [wx, if_pos hwx, ex]
      refine DV.mono ?_ (h1 hs1)
      intro u S2 h2
      rw [← pc]
      exact DOps.guard h2
    · rw [if_neg hwy]
      intro _
      refine ⟨x, hi, ?_⟩
      rw [wx, if_pos hwx, ex]
      refine DV.mono ?_ h
      intro u S1 h1
      rw [← pc]
      refine DOps.guard fun hs1 => ?_
      obtain ⟨y', hy', h1⟩ := h1 hs1
      rw [hj] at hy'
      cases hy'
      rw [wy, if_neg hwy] at h1
      exact h1
  · rw [if_neg hwx] at h
    obtain ⟨y', hy', h⟩ := h hsat
    rw [hj] at hy'
    cases hy'
    rw [wy, ey] at h
    by_cases hwy : Region.wanted y (yielded ops a.tmps) = true
    · rw [if_pos hwy] at h ⊢
      refine DV.mono ?_ h
      intro v S1 h1 hs1
      refine ⟨x, hi, ?_⟩
      rw [wx, if_neg hwx, ← pc]
      exact h1
    · rw [if_neg hwy] at h ⊢
      intro _
      refine ⟨x, hi, ?_⟩
      rw [wx, if_neg hwx, ← pc]
      exact h

theorem DOps.cons_mono {cf : Op → Nat} {i : Nat} {l l' : List Nat} {a : Act} {S : List Asrt} {K : Act → List Asrt → Prop} (hl : ∀ a S, DOps P cf ops ro l a S K → DOps P cf ops ro l' a S K) (h : DOps P cf ops ro (i :: l) a S K) :
    DOps P cf ops ro (i :: l') a S K := by
  intro hs
  obtain ⟨o, ho, h⟩ := h hs
  refine ⟨o, ho, ?_⟩
  split
  · rename_i hw; rw [if_pos hw] at h; exact DV.mono (fun v S' => hl _ _) h
  · rename_i hw; rw [if_neg hw] at h; exact hl _ _ h

/-- an operation comes to the front -/
theorem DOps.front {K : Act → List Asrt → Prop} (hk : ∀ a X X', Ent X X' → K a X' → K a X) {j : Nat} {y : Oper} (hj : ops[j]? = some y) (hy : noSel y.op = true) {l2 : List Nat} :
    ∀ (l1 : List Nat), (∀ i ∈ l1, ∃ x, ops[i]? = some x ∧ noSel x.op = true ∧ swapOk ty ops x y = true) → ∀ a S, DOps P (cls ty) ops ro (l1 ++ j :: l2) a S K → DOps P (cls ty) ops ro (j :: (l1 ++ l2)) a S K
  | [], _, _, _, h => h
  | i :: l1, hl, a, S, h => by
    obtain ⟨x, hx, hn, hsw⟩ := hl i (by simp)
    have ih := DOps.front hk hj hy l1 (l2 := l2) (fun i hi => hl i (by simp [hi]))
    exact DOps.swap hx hj hn hy hsw hk (DOps.cons_mono ih h)

end
end Go.Lb
