/- Typed nodes: what one operation of the translation does, its types resolved; and that it does it. No statement of the seat is proved in this file. -/
import Derived.Test.YtkblnbbpeakgmaaGreatA
import GoSem.Extern.BytealgMakeNoZero
import Derived.Laws.Sem
set_option linter.all false
namespace Go.Lb

/-! ### What a type is -/
inductive TyK where
  | int (k : IntKind) | bool | str | ptr | fn | iface
  | slc (e es eb : Nat) (byte : Bool) (ez : List Value)
  | arr (n e es : Nat)
  | stc (fs : List (Nat × Nat × Bool))
  | map (key : Nat) (ez : Value)
  | other

structure TyI where
  k : TyK
  agg : Bool
  size : Nat
  bytes : Nat
  zero : Value
  flat : Option (List (Option IntKind))

/-- the kinds of a type's cells, of a type whose values are compared cell by cell -/
def flatOf (P : Program) : Nat → Nat → Option (List (Option IntKind))
  | 0, _ => none
  | n + 1, t => match P.underlying t with
    | some (.int k) => some [some k]
    | some .bool => some [none]
    | some (.array m e) => match flatOf P n e, P.info? e with
      | some ks, some j => if ks.length = j.size ∧ 0 < ks.length then some (List.replicate m ks).flatten else none
      | _, _ => none
    | some (.struct fs) => if P.stoodInHeld t then none else
      fs.toList.foldl (fun acc f => match acc, flatOf P n f.type with
        | some l, some ks => if f.name ≠ "_" ∧ f.offset = l.length ∧ ((P.info? f.type).map (·.size)) = some ks.length ∧ 0 < ks.length then some (l ++ ks) else none
        | _, _ => none) (some [])
    | _ => none

def isAggD : TypeDesc → Bool
  | .struct _ | .array _ _ => true
  | _ => false

def fldOf (P : Program) (f : Field) : Nat × Nat × Bool := match P.info? f.type, P.underlying f.type with
  | some j, some d => (f.offset, j.size, isAggD d)
  | _, _ => (f.offset, 0, false)

def tyOf (P : Program) (t : Nat) : Option TyI :=
  match P.info? t, P.underlying t with
  | some i, some d =>
    some { flat := (match d with | .struct _ | .array _ _ => if P.eqGuardType P.depth t then none else flatOf P 8 t | _ => none), agg := isAggD d, size := i.size, bytes := i.bytes, zero := i.zero.getD (.tuple #[]), k := match d with
      | .int k => .int k | .bool => .bool | .string => .str | .pointer _ => .ptr | .func .. => .fn | .interface _ => .iface
      | .slice e => (match P.info? e, P.underlying e with
        | some j, some de => .slc e j.size j.bytes (match de with | .int .u8 => true | _ => false) (match j.zero with | some z => z.cells.toList | none => [])
        | _, _ => .other)
      | .array n e => (match P.info? e with | some j => .arr n e j.size | none => .other)
      | .struct fs => .stc (fs.toList.map (fldOf P))
      | .map k v => (match P.info? v with | some j => (match j.zero with | some z => .map k z | none => .other) | none => .other)
      | _ => .other }
  | _, _ => none

/-! ### Reading memory -/
def rdN (h : HH) (a : Addr) (n : Nat) : Option (List Value) :=
  if n = 0 then some [] else
  match h a.block with
  | some (.cells c _ _) => if a.spot = none ∧ a.off + n ≤ c.size then some ((c.toList.drop a.off).take n) else none
  | _ => none

def splice (l : List Value) (off : Nat) (xs : List Value) : List Value := l.take off ++ xs ++ l.drop (off + xs.length)

/-! ### Nodes without memory -/
inductive NK where
  | ptr | slc | map | fn

inductive Pu where
  | bin (op : BinOp) (x y : Value)
  | eqb (neg : Bool) (x y : Value)
  | eqn (k : NK) (neg : Bool) (x y : Value)
  | eqa (neg : Bool) (ks : List (Option IntKind)) (x y : Value)
  | un (op : UnOp) (x : Value)
  | cvi (k : IntKind) (x : Value)
  | fld (off n : Nat) (agg : Bool) (x : Value)
  | fad (off : Nat) (x : Value)
  | iad (es : Nat) (x i : Value)
  | aad (n es : Nat) (x i : Value)
  | ext (x : Value) (i : Nat)
  | nck (x : Value)
  | len (x : Value)
  | sln (x : Value)
  | cap (x : Value)
  | mki (t : Nat) (x : Value)
  | tas (t : Nat) (z x : Value)
  | mn (x y : Value)
  | bld (zero : List Value) (ps : List (Nat × Nat × Value))
  | slc (es : Nat) (x : Value) (lo hi mx : Option Value)

def okInt (op : BinOp) (k : IntKind) (a b : Int) : Option Value :=
  match op with
  | .add => some (.int k (k.wrap (a + b)))
  | .sub => some (.int k (k.wrap (a - b)))
  | .mul => some (.int k (k.wrap (a * b)))
  | .quo => if b = 0 then none else some (.int k (k.wrap (a.tdiv b)))
  | .rem => if b = 0 then none else some (.int k (a.tmod b))
  | .and => some (.int k (k.wrap (BitVec.ofInt k.bits a &&& BitVec.ofInt k.bits b).toNat))
  | .or => some (.int k (k.wrap (BitVec.ofInt k.bits a ||| BitVec.ofInt k.bits b).toNat))
  | .xor => some (.int k (k.wrap (BitVec.ofInt k.bits a ^^^ BitVec.ofInt k.bits b).toNat))
  | .eql => some (.bool (a == b))
  | .neq => some (.bool (a != b))
  | .lss => some (.bool (a < b))
  | .leq => some (.bool (a ≤ b))
  | .gtr => some (.bool (a > b))
  | .geq => some (.bool (a ≥ b))
  | _ => none

def okShift (op : BinOp) (k : IntKind) (a : Int) (b : Int) : Option Value :=
  if b < 0 then none else
  match op with
  | .shl => some (.int k (k.wrap (a * 2 ^ (min b.toNat k.bits))))
  | .shr => some (.int k (a.fdiv (2 ^ (min b.toNat k.bits))))
  | _ => none

def binV (op : BinOp) (x y : Value) : Option Value :=
  match op, x, y with
  | .shl, .int k a, .int _ b | .shr, .int k a, .int _ b => okShift op k a b
  | _, .int k a, .int k' b => if k = k' then okInt op k a b else none
  | .eql, .string a, .string b => some (.bool (a.toList == b.toList))
  | .neq, .string a, .string b => some (.bool !(a.toList == b.toList))
  | _, _, _ => none

/-- one of the two is nil -/
def nilEq : NK → Value → Value → Option Bool
  | .ptr, .pointer none, .pointer b => some b.isNone
  | .ptr, .pointer (some _), .pointer none => some false
  | .slc, .slice none _ _, .slice b _ _ => some b.isNone
  | .slc, .slice (some _) _ _, .slice none _ _ => some false
  | .map, .map none, .map b => some b.isNone
  | .map, .map (some _), .map none => some false
  | .fn, .nilFunc, .nilFunc => some true
  | .fn, .nilFunc, .func .. => some false
  | .fn, .func .., .nilFunc => some false
  | _, _, _ => none

def cellEq : Option IntKind → Value → Value → Option Bool
  | some k, .int k1 a, .int k2 b => if k1 = k ∧ k2 = k then some (a == b) else none
  | none, .bool a, .bool b => some (a == b)
  | _, _, _ => none

def cellsEq : List (Option IntKind) → List Value → List Value → Option Bool
  | [], [], [] => some true
  | k :: ks, x :: xs, y :: ys => match cellEq k x y, cellsEq ks xs ys with
    | some a, some b => some (a && b)
    | _, _ => none
  | _, _, _ => none

def bldV (cs : List Value) : List (Nat × Nat × Value) → Option (List Value)
  | [] => some cs
  | (off, n, v) :: ps => if v.cells.toList.length = n ∧ off + n ≤ cs.length then bldV (splice cs off v.cells.toList) ps else none

def intOfV : Value → Option Int
  | .int _ n => some n
  | _ => none

def bndV (x : Option Value) (y d : Nat) : Option Nat :=
  match x with
  | none => some d
  | some v => match intOfV v with
    | some i => if 0 ≤ i ∧ i ≤ y then some i.toNat else none
    | none => none

def slcV (es : Nat) (x : Value) (lo hi mx : Option Value) : Option Value :=
  match x with
  | .slice a len cap =>
    match bndV mx cap cap with
    | none => none
    | some m => match bndV hi m len with
      | none => none
      | some h => match bndV lo h 0 with
        | none => none
        | some l => if hi.isNone && mx.isSome then none else some (.slice (if m = l then a else a.map (·.add (l * es))) (h - l) (m - l))
  | _ => none

def Pu.ev : Pu → Option Value
  | .bin op x y => binV op x y
  | .eqb neg (.bool a) (.bool b) => some (.bool (if neg then !(a == b) else a == b))
  | .eqb _ _ _ => none
  | .eqn k neg x y => (nilEq k x y).map fun b => .bool (if neg then !b else b)
  | .eqa neg ks x y => match x, y with
    | .agg a, .agg b => (cellsEq ks a.toList b.toList).map fun r => .bool (if neg then !r else r)
    | _, _ => none
  | .un .not (.bool b) => some (.bool !b)
  | .un _ _ => none
  | .cvi k (.int _ n) => some (.int k (k.wrap n))
  | .cvi _ _ => none
  | .fld off n agg (.agg cs) => if agg then some (.agg ⟨(cs.toList.drop off).take n⟩) else cs.toList[off]?
  | .fld _ _ _ _ => none
  | .fad off (.pointer (some a)) => some (.pointer (some (a.add off)))
  | .fad _ _ => none
  | .iad es (.slice (some a) ln _) (.int _ i) => if 0 ≤ i ∧ i < ln then some (.pointer (some (a.add (i.toNat * es)))) else none
  | .iad _ _ _ => none
  | .aad n es (.pointer (some a)) (.int _ i) => if 0 ≤ i ∧ i < n then some (.pointer (some (a.add (i.toNat * es)))) else none
  | .aad _ _ _ _ => none
  | .ext (.tuple vs) i => vs.toList[i]?
  | .ext _ _ => none
  | .nck (.pointer (some a)) => some (.pointer (some a))
  | .nck (.iface t v) => some (.iface t v)
  | .nck (.func (.func f) a b) => some (.func (.func f) a b)
  | .nck _ => none
  | .len (.slice _ n _) => some (.int .i64 n)
  | .len _ => none
  | .sln (.string s) => some (.int .i64 s.size)
  | .sln _ => none
  | .cap (.slice _ _ n) => some (.int .i64 n)
  | .cap _ => none
  | .mki t x => some (.iface t x)
  | .tas t z (.iface u v) => some (if u = t then .tuple #[v, .bool true] else .tuple #[z, .bool false])
  | .tas _ _ _ => none
  | .mn (.int k a) (.int _ b) => some (.int k (if b < a then b else a))
  | .mn _ _ => none
  | .bld zero ps => (bldV zero ps).map fun l => .agg ⟨l⟩
  | .slc es x lo hi mx => slcV es x lo hi mx

/-! ### Nodes that read memory -/
inductive KK where
  | int | str
  | agg (ks : List (Option IntKind))

inductive Rd where
  | ld (agg : Bool) (n : Nat) (a : Value)
  | b2s (x : Value)
  | mln (x : Value)
  | mlk (kk : KK) (z : Value) (ok : Bool) (x k : Value)

def keyEq : KK → Value → Value → Option Bool
  | .int, .int k a, .int k' b => if k = k' then some (a == b) else none
  | .str, .string a, .string b => some (a == b)
  | .agg ks, .agg a, .agg b => cellsEq ks a.toList b.toList
  | _, _, _ => none

def mfind (kk : KK) (k : Value) : List MapEntry → Nat → Option (Option (Nat × Value))
  | [], _ => some none
  | e :: es, i => match keyEq kk k e.key with
    | some true => some (some (i, e.val))
    | some false => mfind kk k es (i + 1)
    | none => none

def bytesOfV : List Value → Option (List UInt8)
  | [] => some []
  | .int .u8 n :: l => (bytesOfV l).map (UInt8.ofNat n.toNat :: ·)
  | _ => none

def Rd.ev (r : Rd) (h : HH) : Option Value :=
  match r with
  | .ld agg n (.pointer (some a)) => match rdN h a n with
    | some l => if agg then some (.agg ⟨l⟩) else (match l with | [v] => some v | _ => none)
    | none => none
  | .ld _ _ _ => none
  | .b2s (.slice none _ _) => some (.string .empty)
  | .b2s (.slice (some a) n _) => match rdN h a n with
    | some l => (bytesOfV l).map fun bs => .string ⟨⟨bs⟩⟩
    | none => none
  | .b2s _ => none
  | .mln (.map none) => some (.int .i64 0)
  | .mln (.map (some r)) => match h r with
    | some (.map es _) => some (.int .i64 es.size)
    | _ => none
  | .mln _ => none
  | .mlk kk z ok (.map (some r)) k => match h r with
    | some (.map es _) => match mfind kk k es.toList 0 with
      | some (some (_, v)) => some (if ok then .tuple #[v, .bool true] else v)
      | some none => some (if ok then .tuple #[z, .bool false] else z)
      | none => none
    | _ => none
  | .mlk _ _ _ _ _ => none

/-! ### Nodes that make memory -/
inductive Al where
  | nw (t : Nat) (cells : List Value)
  | bx (t : Nat) (v : Value)
  | bsl (e es n : Nat) (ez : List Value) (ps : List (Nat × Nat × Value))
  | mks (e es eb : Nat) (ez : List Value) (l c : Value)
  | mmk

def repL (l : List Value) : Nat → List Value
  | 0 => []
  | n + 1 => l ++ repL l n

def ptrB (b : Nat) : Value := .pointer (some ⟨b, 0, none⟩)

def Al.ev : Al → Option (Obj × (Nat → Value))
  | .nw t cells => some (.cells ⟨cells⟩ t, ptrB)
  | .bx t v => some (.cells ⟨v.cells.toList⟩ t, ptrB)
  | .bsl e es n ez ps => if n * es ≤ 2 ^ 24 ∧ ez.length = es ∧ 0 < es then (bldV (repL ez n) ps).map fun l => (.cells ⟨l⟩ e, fun b => .slice (some ⟨b, 0, none⟩) n n) else none
  | .mks e es eb ez (.int .i64 l) (.int .i64 c) => if 0 ≤ l ∧ l ≤ c ∧ eb * c ≤ 2 ^ 48 ∧ c ≤ 2 ^ 62 ∧ ez.length = es ∧ 0 < es then
      some (.cells ⟨repL ez c.toNat⟩ e, fun b => .slice (some ⟨b, 0, none⟩) l.toNat c.toNat) else none
  | .mks .. => none
  | .mmk => some (.map #[] 0, fun b => .map (some b))

/-! ### Nodes that change memory -/
inductive Hv where
  | st (n : Nat) (a v : Value)
  | app (e es eb : Nat) (ez : List Value) (s x : Value)
  | cpy (es : Nat) (d s : Value)
  | clr (es : Nat) (ez : List Value) (s : Value)
  | mup (kk : KK) (m k v : Value)
  | s2b (e : Nat) (s : Value)
  | mnz (e : Nat) (n : Value)
  | apz (e es eb : Nat) (ez : List Value) (s n : Value)

def wset (w : World) (b : Nat) (o : Obj) : World := { w with heap := w.heap.setIfInBounds b o }

/-- cells are written -/
def wrN (w : World) (a : Addr) (xs : List Value) : Option World :=
  if xs.all Value.oneCell' then
  match w.heap[a.block]? with
  | some (.cells c e fz) => if a.spot = none ∧ a.off + xs.length ≤ c.size ∧ (fz.2 ≤ a.off ∨ a.off + xs.length ≤ fz.1) then some (wset w a.block (.cells ⟨splice c.toList a.off xs⟩ e fz)) else none
  | _ => none
  else none

def cellsOfV (h : HH) (es n : Nat) : Value → Option (List Value)
  | .slice (some a) _ _ => rdN h a (n * es)
  | .slice none _ _ => if n = 0 then some [] else none
  | _ => none

def Hv.run (h : Hv) (w : World) : Option (Value × World) :=
  match h with
  | .st n (.pointer (some a)) v => if v.cells.toList.length = n then (wrN w a v.cells.toList).map fun w' => (.tuple #[], w') else none
  | .st .. => none
  | .app e es eb ez (.slice base sLen sCap) (.slice xb n xc) =>
    if ez.length = es ∧ 0 < es ∧ 0 < eb then
    if sLen + n ≤ sCap then
      match cellsOfV (hof w) es n (.slice xb n xc) with
      | none => none
      | some xs => match base with
        | none => if n = 0 then some (.slice none (sLen + n) sCap, w) else none
        | some a => if xs = [] then some (.slice (some a) (sLen + n) sCap, w) else (wrN w (a.add (sLen * es)) xs).map fun w' => (.slice (some a) (sLen + n) sCap, w')
    else if Builtin.nextslicecap (sLen + n) sCap * eb > 2 ^ 48 then none else
      match cellsOfV (hof w) es sLen (.slice base sLen sCap), cellsOfV (hof w) es n (.slice xb n xc) with
      | some old, some xs =>
        let cap := Question.cut (.appendCap (sLen + n) sCap e) (w.tape w.drawn (.appendCap (sLen + n) sCap e))
        some (.slice (some ⟨w.heap.size, 0, none⟩) (sLen + n) cap, { w with heap := w.heap.push (.cells ⟨old ++ xs ++ repL ez (cap - (sLen + n))⟩ e), drawn := w.drawn + 1 })
      | _, _ => none
    else none
  | .app .. => none
  | .cpy es (.slice base dLen _) (.slice xb n xc) =>
    match cellsOfV (hof w) es (Nat.min n dLen) (.slice xb n xc) with
    | none => none
    | some xs => match base with
      | none => some (.int .i64 (Nat.min n dLen), w)
      | some a => if xs = [] then some (.int .i64 (Nat.min n dLen), w) else (wrN w a xs).map fun w' => (.int .i64 (Nat.min n dLen), w')
  | .cpy .. => none
  | .clr _ _ (.slice none _ _) => some (.tuple #[], w)
  | .clr es ez (.slice (some a) n _) => if ez.length = es ∧ 0 < es then (if n = 0 then some (.tuple #[], w) else (wrN w a (repL ez n)).map fun w' => (.tuple #[], w')) else none
  | .clr .. => none
  | .mup kk (.map (some r)) k v =>
    match w.heap[r]? with
    | some (.map es clock) => match mfind kk k es.toList 0 with
      | some none => some (.tuple #[], wset w r (.map (es.push { key := k, val := v, born := clock }) (clock + 1)))
      | _ => none
    | _ => none
  | .mup .. => none
  | .s2b e (.string s) =>
    let cap := Question.cut (.appendCap s.size 0 e) (w.tape w.drawn (.appendCap s.size 0 e))
    some (.slice (some ⟨w.heap.size, 0, none⟩) s.size cap,
      { w with heap := w.heap.push (.cells ⟨s.data.toList.map (fun b => .int .u8 b.toNat) ++ List.replicate (cap - s.size) (.int .u8 0)⟩ e (cap, cap + 1)), drawn := w.drawn + 1 })
  | .s2b .. => none
  | .mnz e (.int .i64 n) => if 0 ≤ n ∧ n ≤ 2 ^ 48 then
      let cap := Question.cut (.appendCap n.toNat 0 e) (w.tape w.drawn (.appendCap n.toNat 0 e))
      let bytes := Question.cut (.extern "internal/bytealg.MakeNoZero.bytes" 0) (w.tape (w.drawn + 1) (.extern "internal/bytealg.MakeNoZero.bytes" 0))
      some (.slice (some ⟨w.heap.size, 0, none⟩) n.toNat cap, { w with heap := w.heap.push (.cells (Extern.BytealgMakeNoZero.digits cap bytes #[]) e), drawn := w.drawn + 1 + 1 })
    else none
  | .mnz .. => none
  | .apz e es eb ez (.slice base sLen sCap) (.int .i64 n) =>
    if ez.length = es ∧ 0 < es ∧ 0 < eb ∧ 0 < n ∧ n * eb ≤ 2 ^ 48 ∧ sCap < sLen + n.toNat ∧ ((sLen + n.toNat : Nat) : Int) ≤ 2 ^ 62 ∧ Builtin.nextslicecap (sLen + n.toNat) sCap * eb ≤ 2 ^ 48 then
      match cellsOfV (hof w) es sLen (.slice base sLen sCap) with
      | some old =>
        let cap := Question.cut (.appendCap (sLen + n.toNat) sCap e) (w.tape w.drawn (.appendCap (sLen + n.toNat) sCap e))
        some (.slice (some ⟨w.heap.size, 0, none⟩) (sLen + n.toNat) cap, { w with heap := w.heap.push (.cells ⟨old ++ repL ez n.toNat ++ repL ez (cap - (sLen + n.toNat))⟩ e), drawn := w.drawn + 1 })
      | none => none
    else none
  | .apz .. => none

end Go.Lb
