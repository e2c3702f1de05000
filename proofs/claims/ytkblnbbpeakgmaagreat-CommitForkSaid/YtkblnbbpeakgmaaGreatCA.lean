/- The program's types as things of our own, their cells, and numbers. No statement of the seat is proved in this file. -/
import Derived.Test.YtkblnbbpeakgmaaGreatW
set_option linter.all false
namespace Go.Lb

structure Pair where
  a : UInt64
  b : UInt64
structure Nonce where
  ep : UInt32
  sl : UInt32
  ver : UInt64
structure Sealed where
  bytes : List UInt8
  tag : Pair
structure Issue where
  key : Pair
  n : Nonce
  head : List UInt8
  data : List UInt8
  out : Sealed
structure DOp where
  off : Int
  bytes : List UInt8
structure Leaf where
  kind : Int
  dirty : Bool
  lba : Int
  n : Nonce
  tag : Pair
structure Root where
  count : UInt64
  ep : UInt32
  slots : Int
  hash : Pair

theorem Pair.ext {x y : Pair} (h1 : x.a = y.a) (h2 : x.b = y.b) : x = y := by cases x; cases y; simp_all
instance : DecidableEq Pair := fun x y => if h : x.a = y.a ∧ x.b = y.b then isTrue (Pair.ext h.1 h.2) else isFalse (by rintro rfl; exact h ⟨rfl, rfl⟩)
theorem Nonce.ext {x y : Nonce} (h1 : x.ep = y.ep) (h2 : x.sl = y.sl) (h3 : x.ver = y.ver) : x = y := by cases x; cases y; simp_all
instance : DecidableEq Nonce := fun x y => if h : x.ep = y.ep ∧ x.sl = y.sl ∧ x.ver = y.ver then isTrue (Nonce.ext h.1 h.2.1 h.2.2) else isFalse (by rintro rfl; exact h ⟨rfl, rfl, rfl⟩)
theorem Leaf.ext {x y : Leaf} (h1 : x.kind = y.kind) (h2 : x.dirty = y.dirty) (h3 : x.lba = y.lba) (h4 : x.n = y.n) (h5 : x.tag = y.tag) : x = y := by cases x; cases y; simp_all
instance : DecidableEq Leaf := fun x y => if h : x.kind = y.kind ∧ x.dirty = y.dirty ∧ x.lba = y.lba ∧ x.n = y.n ∧ x.tag = y.tag then isTrue (Leaf.ext h.1 h.2.1 h.2.2.1 h.2.2.2.1 h.2.2.2.2) else isFalse (by rintro rfl; exact h ⟨rfl, rfl, rfl, rfl, rfl⟩)

def zPair : Pair := ⟨0, 0⟩
def zNonce : Nonce := ⟨0, 0, 0⟩
def zLeaf : Leaf := ⟨0, false, 0, zNonce, zPair⟩

instance : Enc Pair where
  es := 2
  pos := by decide
  enc p := [val p.a, val p.b]
  len _ := rfl
  oc _ := rfl
instance : Enc Nonce where
  es := 3
  pos := by decide
  enc n := [val n.ep, val n.sl, val n.ver]
  len _ := rfl
  oc _ := rfl
instance : Enc Leaf where
  es := 8
  pos := by decide
  enc l := [val l.kind, val l.dirty, val l.lba, val l.n.ep, val l.n.sl, val l.n.ver, val l.tag.a, val l.tag.b]
  len _ := rfl
  oc _ := rfl
instance : Enc Root where
  es := 5
  pos := by decide
  enc r := [val r.count, val r.ep, val r.slots, val r.hash.a, val r.hash.b]
  len _ := rfl
  oc _ := rfl
instance : Rep DOp where
  es := 2
  pos := by decide
  rep o c h := ∃ v, c = [val o.off, v] ∧ frz v o.bytes h
  len := fun ⟨_, e, _⟩ => by rw [e]; rfl
  oc := fun ⟨_, e, o⟩ => by rw [e]; simp [frz_oc o]; rfl
  mono := fun ⟨v, e, o⟩ l => ⟨v, e, frz_mono l o⟩
  dup := fun ⟨v, e, o⟩ => ⟨v, e, frz_dup _ _ _ o⟩
instance : Rep Sealed where
  es := 3
  pos := by decide
  rep o c h := ∃ v, c = [v, val o.tag.a, val o.tag.b] ∧ frz v o.bytes h
  len := fun ⟨_, e, _⟩ => by rw [e]; rfl
  oc := fun ⟨_, e, o⟩ => by rw [e]; simp [frz_oc o]; exact ⟨rfl, rfl⟩
  mono := fun ⟨v, e, o⟩ l => ⟨v, e, frz_mono l o⟩
  dup := fun ⟨v, e, o⟩ => ⟨v, e, frz_dup _ _ _ o⟩
instance : Rep Issue where
  es := 10
  pos := by decide
  rep o c h := ∃ v1 v2 v3, c = [val o.key.a, val o.key.b, val o.n.ep, val o.n.sl, val o.n.ver, v1, v2, v3, val o.out.tag.a, val o.out.tag.b] ∧ frz v1 o.head h ∧ frz v2 o.data h ∧ frz v3 o.out.bytes h
  len := fun ⟨_, _, _, e, _⟩ => by rw [e]; rfl
  oc := fun ⟨_, _, _, e, o1, o2, o3⟩ => by rw [e]; simp [frz_oc o1, frz_oc o2, frz_oc o3]; repeat' (first | rfl | constructor)
  mono := fun ⟨v1, v2, v3, e, o1, o2, o3⟩ l => ⟨v1, v2, v3, e, frz_mono l o1, frz_mono l o2, frz_mono l o3⟩
  dup := fun ⟨v1, v2, v3, e, o1, o2, o3⟩ => ⟨v1, v2, v3, e, frz_dup _ _ _ o1, frz_dup _ _ _ o2, frz_dup _ _ _ o3⟩

theorem cells_int (k : IntKind) (n : Int) : (Value.int k n).cells.toList = [.int k n] := rfl
theorem cells_bool (b : Bool) : (Value.bool b).cells.toList = [.bool b] := rfl
theorem cells_sl (a : Option Addr) (n c : Nat) : (Value.slice a n c).cells.toList = [.slice a n c] := rfl
theorem cells_ptr (a : Option Addr) : (Value.pointer a).cells.toList = [.pointer a] := rfl
theorem cells_str (s : ByteArray) : (Value.string s).cells.toList = [.string s] := rfl
theorem cells_func (f : Go.Fn) (a b : Array Value) : (Value.func f a b).cells.toList = [.func f a b] := rfl
theorem cells_agg (l : List Value) : (Value.agg ⟨l⟩).cells.toList = l := rfl
theorem cells_u64 (x : UInt64) : (val x).cells.toList = [val x] := rfl
theorem cells_u32 (x : UInt32) : (val x).cells.toList = [val x] := rfl
theorem cells_u8 (x : UInt8) : (val x).cells.toList = [val x] := rfl
theorem cells_i64 (x : Int) : (val x).cells.toList = [val x] := rfl
theorem cells_b (x : Bool) : (val x).cells.toList = [val x] := rfl

def agg {α : Type} [Enc α] (x : α) : Value := .agg ⟨Enc.enc x⟩

theorem cells_enc {α : Type} [Enc α] (x : α) : (agg x).cells.toList = Enc.enc x := rfl
/-! ### numbers -/
abbrev i64 (n : Int) : Value := .int .i64 n
def I64 (n : Int) : Prop := -9223372036854775808 ≤ n ∧ n ≤ 9223372036854775807

theorem val_i64 (n : Int) : val n = .int .i64 n := rfl
theorem val_u64 (n : UInt64) : val n = .int .u64 n.toNat := rfl
theorem val_u32 (n : UInt32) : val n = .int .u32 n.toNat := rfl
theorem val_u8 (n : UInt8) : val n = .int .u8 n.toNat := rfl
theorem val_bool (b : Bool) : val b = .bool b := rfl

theorem u64_wrap {n : Int} : IntKind.u64.wrap n = n % 18446744073709551616 := by
  simp only [IntKind.wrap, IntKind.bits, IntKind.signed]; simp
theorem u32_wrap {n : Int} : IntKind.u32.wrap n = n % 4294967296 := by
  simp only [IntKind.wrap, IntKind.bits, IntKind.signed]; simp
theorem u8_wrap {n : Int} : IntKind.u8.wrap n = n % 256 := by
  simp only [IntKind.wrap, IntKind.bits, IntKind.signed]; simp

section
variable {P : Program} {hb : Nat → Bool} {d : Bool} {ro : HP} {S : List Asrt} {R : Value → List Asrt → Prop} {Ev : Nat → List Value → List Asrt → Prop}

theorem W_u64add {a b : UInt64} {k : Value → Tr} (x : WT P hb (k (val (a + b))) d ro S R Ev) : WT P hb (.pu (.bin .add (val a) (val b)) k) d ro S R Ev :=
  W_pu (by
    show some (Value.int .u64 (IntKind.u64.wrap (a.toNat + b.toNat))) = some (Value.int .u64 ((a + b).toNat : Nat))
    rw [u64_wrap, UInt64.toNat_add]; simp) x
theorem W_u64inc {a : UInt64} {k : Value → Tr} (x : WT P hb (k (val (a + 1))) d ro S R Ev) : WT P hb (.pu (.bin .add (val a) (.int .u64 1)) k) d ro S R Ev := W_u64add (b := 1) x
theorem W_u64sub {a b : UInt64} {k : Value → Tr} (x : WT P hb (k (val (a - b))) d ro S R Ev) : WT P hb (.pu (.bin .sub (val a) (val b)) k) d ro S R Ev :=
  W_pu (by
    show some (Value.int .u64 (IntKind.u64.wrap (a.toNat - b.toNat))) = some (Value.int .u64 ((a - b).toNat : Nat))
    rw [u64_wrap, UInt64.toNat_sub]
    have := a.toNat_lt; have := b.toNat_lt
    congr 2
    omega) x
theorem W_u32add {a b : UInt32} {k : Value → Tr} (x : WT P hb (k (val (a + b))) d ro S R Ev) : WT P hb (.pu (.bin .add (val a) (val b)) k) d ro S R Ev :=
  W_pu (by
    show some (Value.int .u32 (IntKind.u32.wrap (a.toNat + b.toNat))) = some (Value.int .u32 ((a + b).toNat : Nat))
    rw [u32_wrap, UInt32.toNat_add]; simp) x
theorem bv64 (a : UInt64) : BitVec.ofInt 64 (a.toNat : Int) = a.toBitVec := by
  apply BitVec.eq_of_toNat_eq
  have := a.toNat_lt
  simp
theorem W_u64xor {a b : UInt64} {k : Value → Tr} (x : WT P hb (k (val (a ^^^ b))) d ro S R Ev) : WT P hb (.pu (.bin .xor (val a) (val b)) k) d ro S R Ev :=
  W_pu (by
    show some (Value.int .u64 (IntKind.u64.wrap (BitVec.ofInt 64 (a.toNat : Int) ^^^ BitVec.ofInt 64 (b.toNat : Int)).toNat)) = some (Value.int .u64 ((a ^^^ b).toNat : Nat))
    rw [bv64, bv64, u64_wrap]
    have : (a.toBitVec ^^^ b.toBitVec).toNat = (a ^^^ b).toNat := rfl
    rw [this]
    have := (a ^^^ b).toNat_lt
    congr 2
    omega) x
theorem W_u64or {a b : UInt64} {k : Value → Tr} (x : WT P hb (k (val (a ||| b))) d ro S R Ev) : WT P hb (.pu (.bin .or (val a) (val b)) k) d ro S R Ev :=
  W_pu (by
    show some (Value.int .u64 (IntKind.u64.wrap (BitVec.ofInt 64 (a.toNat : Int) ||| BitVec.ofInt 64 (b.toNat : Int)).toNat)) = some (Value.int .u64 ((a ||| b).toNat : Nat))
    rw [bv64, bv64, u64_wrap]
    have : (a.toBitVec ||| b.toBitVec).toNat = (a ||| b).toNat := rfl
    rw [this]
    have := (a ||| b).toNat_lt
    congr 2
    omega) x
/-- shifts: by so many digits -/
def shl64 (a : UInt64) (n : Nat) : UInt64 := UInt64.ofNat (a.toNat * 2 ^ n)
def shr64 (a : UInt64) (n : Nat) : UInt64 := UInt64.ofNat (a.toNat / 2 ^ n)
theorem two_pow (n : Nat) : ((2 : Int) ^ n) = ((2 ^ n : Nat) : Int) := by rw [Int.natCast_pow]; rfl
theorem W_u64shl {a : UInt64} {q : IntKind} {n : Int} {k : Value → Tr} (hn : 0 ≤ n ∧ n ≤ 64) (x : WT P hb (k (val (shl64 a n.toNat))) d ro S R Ev) : WT P hb (.pu (.bin .shl (val a) (.int q n)) k) d ro S R Ev :=
  W_pu (by
    show okShift .shl .u64 (a.toNat : Int) n = some (Value.int .u64 ((shl64 a n.toNat).toNat : Nat))
    unfold okShift
    rw [if_neg (by omega)]
    simp only [IntKind.bits, shl64, UInt64.toNat_ofNat', u64_wrap]
    congr 2
    rw [Nat.min_eq_left (by omega), two_pow, ← Int.natCast_mul]
    omega) x
theorem W_u64shr {a : UInt64} {q : IntKind} {n : Int} {k : Value → Tr} (hn : 0 ≤ n ∧ n ≤ 64) (x : WT P hb (k (val (shr64 a n.toNat))) d ro S R Ev) : WT P hb (.pu (.bin .shr (val a) (.int q n)) k) d ro S R Ev :=
  W_pu (by
    show okShift .shr .u64 (a.toNat : Int) n = some (Value.int .u64 ((shr64 a n.toNat).toNat : Nat))
    unfold okShift
    rw [if_neg (by omega)]
    simp only [IntKind.bits, shr64, UInt64.toNat_ofNat']
    congr 2
    rw [Nat.min_eq_left (by omega)]
    have h1 := a.toNat_lt
    have h2 : a.toNat / 2 ^ n.toNat ≤ a.toNat := Nat.div_le_self _ _
    rw [Nat.mod_eq_of_lt (by omega), two_pow, Int.ofNat_fdiv]) x

/-- from one kind of number to another -/
theorem W_cvi {q p : IntKind} {n m : Int} {k : Value → Tr} (h : q.wrap n = m) (x : WT P hb (k (.int q m)) d ro S R Ev) : WT P hb (.pu (.cvi q (.int p n)) k) d ro S R Ev :=
  W_pu (by show some (Value.int q (q.wrap n)) = _; rw [h]) x
theorem W_i64u64 {n : Int} {k : Value → Tr} (x : WT P hb (k (val (UInt64.ofInt n))) d ro S R Ev) : WT P hb (.pu (.cvi .u64 (.int .i64 n)) k) d ro S R Ev :=
  W_pu (by
    show some (Value.int .u64 (IntKind.u64.wrap n)) = some (Value.int .u64 ((UInt64.ofInt n).toNat : Nat))
    rw [u64_wrap]
    congr 2
    simp only [UInt64.ofInt, UInt64.toNat_ofNat']
    omega) x
theorem W_u64u8 {n : UInt64} {k : Value → Tr} (x : WT P hb (k (val n.toUInt8)) d ro S R Ev) : WT P hb (.pu (.cvi .u8 (val n)) k) d ro S R Ev :=
  W_pu (by
    show some (Value.int .u8 (IntKind.u8.wrap n.toNat)) = some (Value.int .u8 (n.toUInt8.toNat : Nat))
    rw [u8_wrap, UInt64.toNat_toUInt8]; simp) x
theorem W_u64u32 {n : UInt64} {k : Value → Tr} (x : WT P hb (k (val n.toUInt32)) d ro S R Ev) : WT P hb (.pu (.cvi .u32 (val n)) k) d ro S R Ev :=
  W_pu (by
    show some (Value.int .u32 (IntKind.u32.wrap n.toNat)) = some (Value.int .u32 (n.toUInt32.toNat : Nat))
    rw [u32_wrap, UInt64.toNat_toUInt32]; simp) x
theorem W_u8u64 {n : UInt8} {k : Value → Tr} (x : WT P hb (k (val n.toUInt64)) d ro S R Ev) : WT P hb (.pu (.cvi .u64 (val n)) k) d ro S R Ev :=
  W_pu (by
    show some (Value.int .u64 (IntKind.u64.wrap n.toNat)) = some (Value.int .u64 (n.toUInt64.toNat : Nat))
    rw [u64_wrap, UInt8.toNat_toUInt64]
    have := n.toNat_lt
    congr 2
    omega) x
theorem W_u32u64 {n : UInt32} {k : Value → Tr} (x : WT P hb (k (val n.toUInt64)) d ro S R Ev) : WT P hb (.pu (.cvi .u64 (val n)) k) d ro S R Ev :=
  W_pu (by
    show some (Value.int .u64 (IntKind.u64.wrap n.toNat)) = some (Value.int .u64 (n.toUInt64.toNat : Nat))
    rw [u64_wrap, UInt32.toNat_toUInt64]
    have := n.toNat_lt
    congr 2
    omega) x
theorem W_i64u32 {n : Int} {k : Value → Tr} (x : WT P hb (k (val (UInt32.ofInt n))) d ro S R Ev) : WT P hb (.pu (.cvi .u32 (.int .i64 n)) k) d ro S R Ev :=
  W_pu (by
    show some (Value.int .u32 (IntKind.u32.wrap n)) = some (Value.int .u32 ((UInt32.ofInt n).toNat : Nat))
    rw [u32_wrap]
    congr 2
    simp only [UInt32.ofInt, UInt32.toNat_ofNat']
    omega) x
end
end Go.Lb
