/- Trees: what a function does, its operations typed, its slots gone; the judgement on trees; and that a function does what its tree says. No statement of the seat is proved in this file. -/
import Derived.Test.YtkblnbbpeakgmaaGreatJ
set_option linter.all false
namespace Go.Lb

inductive Tr where
  | ret (v : Value)
  | fin (n : Nat) (vs : List Value)
  | pu (p : Pu) (k : Value → Tr)
  | rd (r : Rd) (k : Value → Tr)
  | al (a : Al) (k : Value → Tr)
  | hv (h : Hv) (k : Value → Tr)
  | call (f : Nat) (args : List Value) (k : Value → Tr)
  | callv (f : Value) (args : List Value) (k : Value → Tr)
  | inv (r : Value) (m : String) (args : List Value) (k : Value → Tr)
  | ite (c : Value) (t e : Tr)
  | loop (n : Nat) (vs : List Value) (body : List Value → (Nat → Value) → Tr) (k : List Value → (Nat → Value) → Tr)
  | join (n : Nat) (p : Tr) (k : List Value → (Nat → Value) → Tr)
  | draw (n : Nat) (p : Tr) (k : List Value → (Nat → Value) → Tr)
  | bad

def sl (vs : List Value) (i : Nat) : Value := vs.getD i undef

/-! ### from code to trees -/
structure En where
  ty : Nat → Option TyI
  kk : Nat → Option KK
  mz : Nat → Option Nat
  hb : Nat → Bool

inductive SV where
  | lit (v : Value) | dyn (v : Value)
def SV.val : SV → Value
  | .lit v | .dyn v => v

def svOf (T : List SV) : Operand → SV
  | .tmp t => T.getD t (.lit undef)
  | .const v => .lit v
  | .global g => .lit (.pointer (some ⟨g, 0, none⟩))
  | .func f => .lit (.func (.func f) #[] #[])
def evT (T : List SV) (x : Operand) : Value := (svOf T x).val
def setT (T : List SV) (d : Option Tmp) (s : SV) : List SV := match d with
  | some d => T.set d s
  | none => T

def ndK (nd : Nd) (k : Value → Tr) : Tr := match nd with
  | .va v => k v
  | .pu p => .pu p k
  | .rd r => .rd r k
  | .al a => .al a k
  | .hv h => .hv h k
  | .call f args => .call f args k
  | .callv f args => .callv f args k
  | .inv r m args => .inv r m args k

def denO (E : En) (o : Oper) (T : List SV) (κ : List SV → Tr) : Tr :=
  match o.op with
  | .move x | .assign x => κ (setT T o.dst (svOf T x))
  | .pick c a b => match svOf T c with
    | .lit (.bool t) => κ (setT T o.dst (svOf T (if t then a else b)))
    | .lit _ => .bad
    | .dyn v => .ite v (κ (setT T o.dst (svOf T a))) (κ (setT T o.dst (svOf T b)))
  | op => match trOp E.ty E.kk E.mz E.hb (evT T) op with
    | none => .bad
    | some nd => ndK nd fun v => κ (setT T o.dst (.dyn v))

/-- the operations of a region, one behind the other; ds: the slots that they write -/
def denL (E : En) (ds : List (Option Tmp)) : List Oper → List SV → (List SV → Tr) → Tr
  | [], T, κ => κ T
  | o :: l, T, κ =>
    match o.guard with
    | none => denO E o T fun T => denL E ds l T κ
    | some (j, want) =>
      match (ds[j]?).bind id with
      | none => .bad
      | some d => match T.getD d (.lit undef) with
        | .lit (.bool b) => if b == want then denO E o T fun T => denL E ds l T κ else denL E ds l (setT T o.dst (.lit undef)) κ
        | .lit _ => denL E ds l (setT T o.dst (.lit undef)) κ
        | .dyn v =>
          let Tt := T.set d (.lit (.bool true))
          let Tf := T.set d (.lit (.bool false))
          .ite v (if want then denO E o Tt fun T => denL E ds l T κ else denL E ds l (setT Tt o.dst (.lit undef)) κ)
            (if want then denL E ds l (setT Tf o.dst (.lit undef)) κ else denO E o Tf fun T => denL E ds l T κ)

inductive Ex where
  | normal | exit (id : Nat) | ret

def asgO (l : List Oper) : List Nat := l.filterMap (·.dst)
def asg : Code → List Nat
  | .region _ ops _ => asgO ops.toList
  | .seq a b | .cond _ a b => asg a ++ asg b
  | .block _ c | .loop c | .scope c => asg c
  | _ => []

def slotsV (T : List SV) (hs : List Nat) : List Value := hs.map fun s => (T.getD s (.lit undef)).val
def loadGo (as hs : List Nat) (vs : List Value) (j : Nat → Value) : Nat → List SV → List SV
  | _, [] => []
  | s, x :: T => (if as.contains s then .dyn (if hs.contains s then sl vs (hs.idxOf s) else j s) else x) :: loadGo as hs vs j (s + 1) T
def loadT (T : List SV) (as hs : List Nat) (vs : List Value) (j : Nat → Value) : List SV := loadGo as hs vs j 0 T

/-- hints: by a key the slots that live on; keys: a block's number; 1000 + the first region of a test; 2000 + a region's number; 3000 and 4000 + a region's number: the orders of its two parts -/
abbrev Hints := List (Nat × List Nat)

def firstReg : Code → Nat
  | .region id _ _ => id
  | .seq a _ => firstReg a
  | .cond _ a _ => firstReg a
  | .block _ c | .loop c | .scope c => firstReg c
  | _ => 0

def joinKey (H : Hints) : Code → Option (List Nat)
  | .cond _ a _ => H.lookup (1000 + firstReg a)
  | _ => none

def pick2 (ops : Array Oper) (c : List Nat) : List Oper := c.filterMap fun i => ops[i]?

def denC (E : En) (H : Hints) : Code → Nat → List SV → (Ex → List SV → Tr) → Tr
  | .skip, _, T, κ => κ .normal T
  | .region _ ops false, _, T, κ => denL E (ops.toList.map (·.dst)) ops.toList T (κ .normal)
  | .region id ops true, L, T, κ =>
    let cb := (H.lookup (3000 + id)).getD (List.range ops.size)
    let ct := (H.lookup (4000 + id)).getD []
    let hs := (H.lookup (2000 + id)).getD []
    if drawOk E.ty ops cb ct then
      .draw L (denL E (ops.toList.map (·.dst)) (pick2 ops cb) T fun T' => .fin L (slotsV T' hs))
        (fun vs j => denL E (ops.toList.map (·.dst)) (pick2 ops ct) (loadT T (asgO (pick2 ops cb)) hs vs j) (κ .normal))
    else .bad
  | .seq a b, L, T, κ => match joinKey H a with
    | some hs => .join L (denC E H a (L + 1) T fun e T' => match e with
        | .normal => .fin L (slotsV T' hs)
        | e => κ e T') (fun vs j => denC E H b L (loadT T (asg a) hs vs j) κ)
    | none => denC E H a L T fun e T' => match e with
        | .normal => denC E H b L T' κ
        | e => κ e T'
  | .cond c a b, L, T, κ => match svOf T c with
    | .lit (.bool t) => if t then denC E H a L T κ else denC E H b L T κ
    | .lit _ => .bad
    | .dyn v => match c with
      | .tmp t => .ite v (denC E H a L (T.set t (.lit (.bool true))) κ) (denC E H b L (T.set t (.lit (.bool false))) κ)
      | _ => .bad
  | .block id (.loop body), L, T, κ =>
    let hs := (H.lookup id).getD []
    .loop L (slotsV T hs) (fun vs j => denC E H body (L + 2) (loadT T (asg body) hs vs j) fun e T' => match e with
        | .normal => .fin L (slotsV T' hs)
        | .exit i => if i = id then .fin (L + 1) (slotsV T' hs) else κ (.exit i) T'
        | .ret => κ .ret T')
      (fun vs j => κ .normal (loadT T (asg body) hs vs j))
  | .block id c, L, T, κ => match H.lookup id with
    | some hs => .join L (denC E H c (L + 1) T fun e T' => match e with
        | .normal => .fin L (slotsV T' hs)
        | .exit i => if i = id then .fin L (slotsV T' hs) else κ (.exit i) T'
        | .ret => κ .ret T') (fun vs j => κ .normal (loadT T (asg c) hs vs j))
    | none => denC E H c L T fun e T' => match e with
        | .exit i => if i = id then κ .normal T' else κ (.exit i) T'
        | e => κ e T'
  | .exit id, _, T, κ => κ (.exit id) T
  | .ret, _, T, κ => κ .ret T
  | _, _, _, _ => .bad

def retV : List Value → Value
  | [v] => v
  | l => .tuple ⟨l⟩

def denR (E : En) (T : List SV) : List ResultVar → List Value → Tr
  | [], acc => .ret (retV acc.reverse)
  | .tmp t :: rs, acc => denR E T rs ((T.getD t (.lit undef)).val :: acc)
  | .cell a t :: rs, acc => match E.ty t with
    | some i => .rd (.ld i.agg i.size (T.getD a (.lit undef)).val) fun v => denR E T rs (v :: acc)
    | none => .bad

def denF (E : En) (H : Hints) (fn : Func) (args : List Value) : Tr :=
  match fn.body with
  | none => .bad
  | some c => denC E H c 0 (args.map .dyn ++ List.replicate (fn.ntmps - args.length) (.lit undef)) fun e T => match e with
    | .exit _ => .bad
    | _ => denR E T fn.results.toList []

/-! ### the judgement on trees -/
def updE (Ev : Nat → List Value → List Asrt → Prop) (n : Nat) (X : List Value → List Asrt → Prop) : Nat → List Value → List Asrt → Prop := fun m => if m = n then X else Ev m

def WT (P : Program) (hb : Nat → Bool) : Tr → Bool → HP → List Asrt → (Value → List Asrt → Prop) → (Nat → List Value → List Asrt → Prop) → Prop
  | .ret v, d, ro, S, R, _ => Cl ro (fun S => d = false ∧ R v S) S
  | .fin n vs, _, ro, S, _, Ev => Cl ro (fun S => Ev n vs S) S
  | .pu p k, d, ro, S, R, Ev => Cl ro (fun S => ∃ v, p.ev = some v ∧ WT P hb (k v) d ro S R Ev) S
  | .rd r k, d, ro, S, R, Ev => Cl ro (fun S => ∃ v, (∀ w, (if d then Has ro w else ∃ F, Holds ro (S ++ [F]) w) → r.ev (hof w) = some v) ∧ WT P hb (k v) d ro S R Ev) S
  | .al a k, d, ro, S, R, Ev => Cl ro (fun S => ∃ o f, a.ev = some (o, f) ∧ ∀ b, WT P hb (k (f b)) d ro (one b (· = o) :: S) R Ev) S
  | .hv h k, d, ro, S, R, Ev => ∀ F w0 w, Hs ro S F w0 w → ∃ v w' S', h.run w = some (v, w') ∧ Hs ro S' F w0 w' ∧ WT P hb (k v) d ro S' R Ev
  | .call f args k, d, ro, S, R, Ev => Cl ro (fun S => Tri P ro f ⟨args⟩ S fun v S' => WT P hb (k v) d ro S' R Ev) S
  | .callv g args k, d, ro, S, R, Ev => Cl ro (fun S => ∃ f fs cap, g = .func (.func f) fs cap ∧ hb f = true ∧ Tri P ro f (fs ++ ⟨args⟩ ++ cap) S fun v S' => WT P hb (k v) d ro S' R Ev) S
  | .inv r m args k, d, ro, S, R, Ev => Cl ro (fun S => ∃ t a f, r = .iface t (.pointer (some a)) ∧ MethodAt P t m f ∧ hb f = true ∧ Tri P ro f (#[.pointer (some a)] ++ ⟨args⟩) S fun v S' => WT P hb (k v) d ro S' R Ev) S
  | .ite c t e, d, ro, S, R, Ev => Cl ro (fun S => ∃ b, c = .bool b ∧ (b = true → WT P hb t d ro S R Ev) ∧ (b = false → WT P hb e d ro S R Ev)) S
  | .loop n vs body k, d, ro, S, R, Ev => Cl ro (fun S => d = false ∧ ∃ I : Nat → List Value → List Asrt → Prop, (∃ m, I m vs S) ∧
      ∀ m vs j S', I m vs S' → WT P hb (body vs j) false ro S' R (updE (updE Ev n fun vs' S'' => ∃ m', m' < m ∧ I m' vs' S'') (n + 1) fun vs' S'' => ∀ j, WT P hb (k vs' j) false ro S'' R Ev)) S
  | .join n p k, d, ro, S, R, Ev => WT P hb p d ro S R (updE Ev n fun vs S' => ∀ j, WT P hb (k vs j) d ro S' R Ev)
  | .draw n p k, d, ro, S, R, Ev => Cl ro (fun S => d = false ∧ ∃ B S2, Ent S (B ++ S2) ∧ ∀ ro', hle ro ro' → big B ro' →
      WT P hb p true ro' S2 (fun _ _ => False) fun m vs S' => m = n ∧ ∀ j, WT P hb (k vs j) false ro (B ++ S') R Ev) S
  | .bad, _, ro, S, _, _ => Cl ro (fun _ => False) S

structure EnOk (P : Program) (E : En) : Prop where
  ty : ∀ t i, E.ty t = some i → tyOf P t = some i
  kk : ∀ t q, E.kk t = some q → kkOf P t = some q
  mz : ∀ f e, E.mz f = some e → mzOf P f = some e
  hb : ∀ f, E.hb f = true → hbOf P f = true

end Go.Lb
