/- The translation of operations to nodes, and its soundness. No statement of the seat is proved in this file. -/
import Derived.Test.YtkblnbbpeakgmaaGreatC
set_option linter.all false
namespace Go.Lb

inductive Nd where
  | va (v : Value) | pu (p : Pu) | rd (r : Rd) | al (a : Al) | hv (h : Hv)
  | call (f : Nat) (args : List Value)
  | callv (f : Value) (args : List Value)
  | inv (r : Value) (m : String) (args : List Value)

def kkOf (P : Program) (t : Nat) : Option KK :=
  match P.underlying t with
  | some (.int _) => some .int
  | some .string => some .str
  | _ => none

def placesOf (fs : List (Nat × Nat × Bool)) (ev : Operand → Value) : List (Nat × Operand) → Option (List (Nat × Nat × Value))
  | [] => some []
  | (i, x) :: l => match fs[i]?, placesOf fs ev l with
    | some (off, n, _), some r => if n = 0 then none else some ((off, n, ev x) :: r)
    | _, _ => none

def zOk : Value → Bool
  | .tuple _ => false
  | _ => true

def isIntT (ty : Nat → Option TyI) (t : Nat) : Bool := match ty t with | some { k := .int _, .. } => true | _ => false

def trCall (ty : Nat → Option TyI) (mz : Nat → Option Nat) (hb : Nat → Bool) (ev : Operand → Value) (c : Call) : Option Nd :=
  let args := c.args.toList.map ev
  match c.callee with
  | .value (.func f) => if hb f then some (.call f args) else match mz f, args with
    | some e, [x] => some (.hv (.mnz e x))
    | _, _ => none
  | .value (.tmp t) => some (.callv (ev (.tmp t)) args)
  | .value _ => none
  | .invoke r m => some (.inv (ev r) m args)
  | .builtin .len => match c.argTypes[0]?.bind ty, args with
    | some i, [x] => match i.k with
      | .str => some (.pu (.sln x))
      | .slc .. => some (.pu (.len x))
      | .map .. => some (.rd (.mln x))
      | _ => none
    | _, _ => none
  | .builtin .cap => match c.argTypes[0]?.bind ty, args with
    | some i, [x] => match i.k with
      | .slc .. => some (.pu (.cap x))
      | _ => none
    | _, _ => none
  | .builtin .min => match args with
    | [x, y] => some (.pu (.mn x y))
    | _ => none
  | .builtin .append => match c.argTypes[0]?.bind ty, c.argTypes[1]?.bind ty, args with
    | some i, some i2, [s, x] => match i.k, i2.k with
      | .slc e es eb _ ez, .slc .. => some (.hv (.app e es eb ez s x))
      | .slc e es eb _ ez, .int .i64 => some (.hv (.apz e es eb ez s x))
      | _, _ => none
    | _, _, _ => none
  | .builtin .copy => match c.argTypes[0]?.bind ty, args with
    | some i, [s, x] => match i.k with
      | .slc _ es _ _ _ => some (.hv (.cpy es s x))
      | _ => none
    | _, _ => none
  | .builtin .clear => match c.argTypes[0]?.bind ty, args with
    | some i, [s] => match i.k with
      | .slc _ es _ _ ez => some (.hv (.clr es ez s))
      | _ => none
    | _, _ => none
  | _ => none

def trEq (i : TyI) (neg : Bool) (x y : Value) : Option Nd :=
  match i.k with
  | .bool => some (.pu (.eqb neg x y))
  | .ptr => some (.pu (.eqn .ptr neg x y))
  | .fn => some (.pu (.eqn .fn neg x y))
  | .slc .. => some (.pu (.eqn .slc neg x y))
  | .map .. => some (.pu (.eqn .map neg x y))
  | .stc _ => i.flat.map fun ks => .pu (.eqa neg ks x y)
  | .arr .. => i.flat.map fun ks => .pu (.eqa neg ks x y)
  | _ => none

def isIS (i : TyI) : Bool := match i.k with
  | .int _ | .str => true
  | _ => false

def trBin (i : TyI) (op : BinOp) (x y : Value) : Option Nd :=
  if isIS i then some (.pu (.bin op x y)) else
  match op with
  | .eql => trEq i false x y
  | .neq => trEq i true x y
  | _ => none

def trOp (ty : Nat → Option TyI) (kk : Nat → Option KK) (mz : Nat → Option Nat) (hb : Nat → Bool) (ev : Operand → Value) (op : Op) : Option Nd :=
  match op with
  | .move x | .assign x => some (.va (ev x))
  | .alloc e => (ty e).bind fun i => if zOk i.zero then some (.al (.nw e i.zero.cells.toList)) else none
  | .box e x => some (.al (.bx e (ev x)))
  | .load t a => (ty t).map fun i => .rd (.ld i.agg i.size (ev a))
  | .store t a x => (ty t).map fun i => .hv (.st i.size (ev a) (ev x))
  | .nilCheck x => some (.pu (.nck (ev x)))
  | .binOp op t x y _ => (ty t).bind fun i => trBin i op (ev x) (ev y)
  | .unOp op _ x => some (.pu (.un op (ev x)))
  | .convert s d x => match (ty s).map TyI.k, (ty d).map TyI.k with
    | some (.int _), some (.int k) => some (.pu (.cvi k (ev x)))
    | some (.slc _ _ _ true _), some .str => some (.rd (.b2s (ev x)))
    | some .str, some (.slc e _ _ true _) => some (.hv (.s2b e (ev x)))
    | _, _ => none
  | .makeInterface t x => match (ty t).map TyI.k with
    | some (.int _) => some (.pu (.mki t (ev x)))
    | some .ptr => some (.pu (.mki t (ev x)))
    | some .str => some (.pu (.mki t (ev x)))
    | _ => none
  | .makeFunc fn first captured => some (.va (.func fn ⟨first.toList.map ev⟩ ⟨captured.toList.map ev⟩))
  | .makeMap _ none => some (.al .mmk)
  | .makeSlice t l c => match (ty t).map TyI.k with
    | some (.slc e es eb _ ez) => some (.al (.mks e es eb ez (ev l) (ev c)))
    | _ => none
  | .slice t x lo hi mx => match (ty t).map TyI.k with
    | some (.slc _ es _ _ _) => some (.pu (.slc es (ev x) (lo.map ev) (hi.map ev) (mx.map ev)))
    | _ => none
  | .fieldAddr s x f => match (ty s).map TyI.k with
    | some (.stc fs) => match fs[f]? with
      | some (off, n, _) => if n = 0 then none else some (.pu (.fad off (ev x)))
      | none => none
    | _ => none
  | .field s x f => match (ty s).map TyI.k with
    | some (.stc fs) => match fs[f]? with
      | some (off, n, agg) => if n = 0 then none else some (.pu (.fld off n agg (ev x)))
      | none => none
    | _ => none
  | .indexAddr t x i => match (ty t).map TyI.k with
    | some (.slc _ es _ _ _) => some (.pu (.iad es (ev x) (ev i)))
    | some (.arr n _ es) => some (.pu (.aad n es (ev x) (ev i)))
    | _ => none
  | .lookup t x k ok => match (ty t).map TyI.k with
    | some (.map kt z) => (kk kt).map fun q => .rd (.mlk q z ok (ev x) (ev k))
    | _ => none
  | .mapUpdate t m k v | .insert t m k v => match (ty t).map TyI.k with
    | some (.map kt _) => (kk kt).map fun q => .hv (.mup q (ev m) (ev k) (ev v))
    | _ => none
  | .typeAssert x _ t true => match (ty t) with
    | some i => match i.k, i.zero with
      | .int _, .int _ _ => some (.pu (.tas t i.zero (ev x)))
      | _, _ => none
    | none => none
  | .extract t i => some (.pu (.ext (ev t) i))
  | .build t ps => match ty t with
    | some i => match i.k with
      | .stc fs => if zOk i.zero && fs.all (fun q => q.2.1 != 0) then (placesOf fs ev ps.toList).map fun r => .pu (.bld i.zero.cells.toList r) else none
      | .arr _ _ es => if zOk i.zero then some (.pu (.bld i.zero.cells.toList (ps.toList.map fun (j, x) => (j * es, es, ev x)))) else none
      | _ => none
    | none => none
  | .buildSlice t n ps => match (ty t).map TyI.k with
    | some (.slc e es _ _ ez) => some (.al (.bsl e es n ez (ps.toList.map fun (j, x) => (j * es, es, ev x))))
    | _ => none
  | .call c => trCall ty mz hb ev c
  | _ => none

/-- the contract of a call of a method of an interface value -/
def MethodAt (P : Program) (t : Nat) (m : String) (f : Nat) : Prop :=
  ∀ (v : Value) (w : World), (∃ a, v = .pointer (some a)) → (method (P.types.size + Made.depth) t v m).run P w = .ok (f, v) w

def Nd.ok (P : Program) (hb : Nat → Bool) (s : Sem Next) : Nd → Prop
  | .va v => ∀ w, s.run P w = .ok (.value v) w
  | .pu p => ∀ v, p.ev = some v → ∀ w, s.run P w = .ok (.value v) w
  | .rd r => ∀ v w, r.ev (hof w) = some v → s.run P w = .ok (.value v) w
  | .al a => ∀ o f, a.ev = some (o, f) → ∀ w, s.run P w = .ok (.value (f w.heap.size)) { w with heap := w.heap.push o }
  | .hv h => ∀ w v w', h.run w = some (v, w') → (s.run P w = .ok (.value v) w' ∨ (v = .tuple #[] ∧ s.run P w = .ok .skip w'))
  | .call f args => ∀ w, s.run P w = .ok (.enter f ⟨args⟩) w
  | .callv g args => ∀ f fs cap, g = .func (.func f) fs cap → hb f = true → ∀ w, s.run P w = .ok (.enter f (fs ++ ⟨args⟩ ++ cap)) w
  | .inv r m args => ∀ t v f, r = .iface t v → (∃ a, v = .pointer (some a)) → MethodAt P t m f → hb f = true → ∀ w, s.run P w = .ok (.enter f (#[v] ++ ⟨args⟩)) w

def hbOf (P : Program) (f : Nat) : Bool := match P.funcs[f]? with
  | some fn => fn.body.isSome && fn.name != "runtime.NumGoroutine"
  | none => false

/-- the one function without a body that is called: bytealg.MakeNoZero; its element's type -/
def mzOf (P : Program) (f : Nat) : Option Nat := match P.funcs[f]? with
  | some fn => if fn.name = "internal/bytealg.MakeNoZero" ∧ fn.body.isNone = true ∧ (Extern.findNext fn).isNone = true then
      match fn.resultTypes[0]? with
      | some t => match P.underlying t with
        | some (.slice e) => some e
        | _ => none
      | none => none
    else none
  | none => none

theorem call_ok {P : Program} {f : Nat} (h : hbOf P f = true) (args : Array Value) (w : World) : (callFunc f args).run P w = .ok (.enter f args) w := by
  unfold hbOf at h
  split at h
  · rename_i fn hf
    simp only [Bool.and_eq_true, bne_iff_ne, ne_eq] at h
    simp only [callFunc, Sem.run_bind, run_program, Result.andThen_ok, hf]
    have h1 : (fn.name == "runtime.NumGoroutine") = false := by simpa using h.2
    have h2 : fn.body.isNone = false := by cases hb : fn.body <;> simp_all
    simp [h1, h2]
  · cases h

section
variable {P : Program}

theorem bin_ok {op : BinOp} {t : Nat} {xo yo : Operand} {x y v : Value} (h : binV op x y = some v) (w : World) :
    (do eqGuard op t xo yo x y; binOp op t x y : Sem Value).run P w = .ok v w := by
  unfold binV at h
  split at h
  · -- shl
    rename_i k a yk b
    unfold okShift at h
    split at h
    · cases h
    · rename_i hb
      simp at h; subst h
      simp [eqGuard, binOp, Op.shift, hb]
  · rename_i k a yk b
    unfold okShift at h
    split at h
    · cases h
    · rename_i hb
      simp at h; subst h
      simp [eqGuard, binOp, Op.shift, hb]
  · rename_i hs1 hs2
    split at h
    · rename_i hk
      subst hk
      cases op <;> simp only [okInt] at h <;>
        first
          | (exact absurd rfl hs1; done)
          | (exact absurd rfl hs2; done)
          | (cases h; done)
          | (split at h <;> first | (cases h; done) | (rename_i hz; simp at h; subst h; simp [eqGuard, binOp, Op.intDiv, hz]; done))
          | (simp at h; subst h; simp [eqGuard, binOp, Op.intArith, Op.intBits, Op.intCmp]; done)
          | simp_all
    · cases h
  · simp at h; subst h
    simp [eqGuard, binOp, Op.stringOp]
  · simp at h; subst h
    simp [eqGuard, binOp, Op.stringOp]
  · cases h

end
end Go.Lb
