/- Contracts: lock. No statement of the seat is proved in this file. -/
import Derived.Test.YtkblnbbpeakgmaaGreatCN
set_option linter.all false
namespace Go.Lb
open Go.Proofs
attribute [local irreducible] WT blk fzb own frz mp exL isA Ent Tri updE drawE At Kn See SeeS

/-- what the computed sealer does -/
structure RealF where
  sea : Pair → Nonce → List UInt8 → List UInt8 → Sealed × Bool
  opn : Pair → Nonce → List UInt8 → Sealed → List UInt8 × Bool
  sum : List UInt8 → Pair
inductive Lk where
  | real (r : RealF)
  | ideal (x : Orc)
def fv (f : Nat) (fs : List Value) : Value := .func (.func f) ⟨fs⟩ ⟨[]⟩
def lockL (l : Nat) (x : Orc) (b : Nat × Nat) : List Asrt := [blk l [fv 167 [ptr b.1], fv 168 [ptr b.1], fv 169 [ptr b.1], fv 164 [ptr b.1], fv 165 [ptr b.1]], orcA b.1 b.2 x]
def lockA (l : Nat) : Lk → Asrt
  | .real _ => blk l [fv 161 [], fv 162 [], fv 163 [], fv 164 [nil], fv 165 [nil]]
  | .ideal x => exL (lockL l x)
theorem ent_lock {l : Nat} {x : Orc} (o mb : Nat) (S : List Asrt) : Ent (blk l [fv 167 [ptr o], fv 168 [ptr o], fv 169 [ptr o], fv 164 [ptr o], fv 165 [ptr o]] :: orcA o mb x :: S) (lockA l (.ideal x) :: S) := Ent.exL (X := lockL l x) (o, mb) S
structure RealOk (r : RealF) : Prop where
  sea : ∀ (ro : HP) (key : Pair) (no : Nonce) (v3 v4 : Value) (head data : List UInt8), head.length ≤ 2 ^ 30 → data.length ≤ 2 ^ 30 → Fn Tryz.prog ro 161 [agg key, agg no, v3, v4] [frz v3 head, frz v4 data]
      fun u : Value => (.tuple ⟨[sealC (r.sea key no head data).1 u, .bool (r.sea key no head data).2]⟩, [frz u (r.sea key no head data).1.bytes, frz v3 head, frz v4 data])
  opn : ∀ (ro : HP) (key : Pair) (no : Nonce) (v3 v4 : Value) (head : List UInt8) (s : Sealed), head.length ≤ 2 ^ 30 → s.bytes.length ≤ 2 ^ 30 → Fn Tryz.prog ro 162 [agg key, agg no, v3, sealC s v4] [frz v3 head, frz v4 s.bytes]
      fun u : Value => (.tuple ⟨[u, .bool (r.opn key no head s).2]⟩, [frz u (r.opn key no head s).1, frz v3 head, frz v4 s.bytes])
  sum : ∀ (ro : HP) (v : Value) (rows : List (List UInt8)), rows.flatten.length ≤ 2 ^ 30 → rows.length ≤ 2 ^ 30 → Fn Tryz.prog ro 163 [v] [frz v rows] fun _ : Unit => (agg (r.sum rows.flatten), [frz v rows])
  len : ∀ key no head data, (r.sea key no head data).1.bytes.length ≤ data.length
  ten : ∀ key no head s, (r.opn key no head s).1.length ≤ s.bytes.length
def okL : Lk → Prop
  | .real r => RealOk r
  | .ideal x => okOr x
def sealL : Lk → Pair → Nonce → List UInt8 → List UInt8 → (Sealed × Bool) × Lk
  | .real r, key, no, head, data => (r.sea key no head data, .real r)
  | .ideal x, key, no, head, data => ((sealO x key no head data).1, .ideal (sealO x key no head data).2)
def openL : Lk → Pair → Nonce → List UInt8 → Sealed → List UInt8 × Bool
  | .real r, key, no, head, s => r.opn key no head s
  | .ideal x, key, no, head, s => openO x key no head s
def sumL : Lk → List UInt8 → Pair × Lk
  | .real r, k => (r.sum k, .real r)
  | .ideal x, k => ((sumO x k).1, .ideal (sumO x k).2)
def issuedL : Lk → List Issue
  | .real _ => []
  | .ideal x => x.issued

theorem k93 {ro : HP} (r : RealF) : Fn Tryz.prog ro 93 [] [] fun l : Nat => (ptr l, [lockA l (.real r)]) := by
  refine c93 ?_
  unfold t93
  (repeat' (first | refine st ?_ | (refine iw ?_ ?_ <;> intro h <;> try exact ko) | intro b))
  (first | exact retU | exact retB)
theorem k94 {ro : HP} : Fn Tryz.prog ro 94 [] [] fun l : Nat => (ptr l, [lockA l (.ideal ⟨[], []⟩)]) := by
  refine c94 ?_
  unfold t94
  refine fn k166 fun b => ?_
  obtain ⟨o, mb⟩ := b
  refine nf ?_
  (repeat' (first | refine st ?_ | (refine iw ?_ ?_ <;> intro h <;> try exact ko) | intro b))
  exact W_retE b rfl (ent_lock o mb [])
theorem k181 {ro : HP} (l : Nat) (lk : Lk) (key : Pair) (no : Nonce) (v3 v4 : Value) (head data : List UInt8) (ok : okL lk) (hl : head.length ≤ 2 ^ 30 ∧ data.length ≤ 2 ^ 30) :
    Fn Tryz.prog ro 181 [ptr l, agg key, agg no, v3, v4] [lockA l lk, frz v3 head, frz v4 data]
      fun r : Value => (.tuple ⟨[sealC (sealL lk key no head data).1.1 r, .bool (sealL lk key no head data).1.2]⟩, [frz r (sealL lk key no head data).1.1.bytes, lockA l (sealL lk key no head data).2, frz v3 head, frz v4 data]) := by
  refine c181 _ _ _ _ _ ?_
  unfold t181
  refine st ?_
  intro b0
  refine st ?_
  intro b1
  refine st ?_
  intro b2
  refine st ?_
  refine st ?_
  cases lk with
  | real r =>
    unfold lockA
    refine W_draw [blk l [fv 161 [], fv 162 [], fv 163 [], fv 164 [nil], fv 165 [nil]], blk b0 (Enc.enc key), blk b1 (Enc.enc no)] sub' fun ro' hle hb => ?_
    obtain ⟨k1, hb⟩ := Kn.of_big hb
    obtain ⟨k2, hb⟩ := Kn.of_big hb
    obtain ⟨k3, hb⟩ := Kn.of_big hb
    (repeat' (first | refine st ?_ | (refine iw ?_ ?_ <;> intro h <;> try exact ko) | intro b))
    refine fnv (ok.sea ro' key no v3 v4 head data hl.1 hl.2) fun u => ?_
    unfold sealC
    refine nf ?_
    refine W_slO (v := u) sees' ?_
    rintro a n c rfl
    (repeat' (first | refine st ?_ | (refine iw ?_ ?_ <;> intro h <;> try exact ko) | intro b))
    refine fi ?_
    intro j
    refine nf ?_
    (repeat' (first | refine st ?_ | (refine iw ?_ ?_ <;> intro h <;> try exact ko) | intro b))
    exact W_retE (.slice a n c) rfl en'
  | ideal x =>
    refine W_exL (X := lockL l x) pk' fun b => ?_
    obtain ⟨o, mb⟩ := b
    unfold lockL
    refine nf ?_
    refine W_draw [blk l [fv 167 [ptr o], fv 168 [ptr o], fv 169 [ptr o], fv 164 [ptr o], fv 165 [ptr o]], blk b0 (Enc.enc key), blk b1 (Enc.enc no)] sub' fun ro' hle hb => ?_
    obtain ⟨k1, hb⟩ := Kn.of_big hb
    obtain ⟨k2, hb⟩ := Kn.of_big hb
    obtain ⟨k3, hb⟩ := Kn.of_big hb
    (repeat' (first | refine st ?_ | (refine iw ?_ ?_ <;> intro h <;> try exact ko) | intro b))
    refine fnv (k167 o mb x key no v3 v4 head data ok ⟨by omega, by omega⟩) fun u => ?_
    unfold sealC
    refine nf ?_
    refine W_slO (v := u) sees' ?_
    rintro a n c rfl
    (repeat' (first | refine st ?_ | (refine iw ?_ ?_ <;> intro h <;> try exact ko) | intro b))
    refine fi ?_
    intro j
    refine nf ?_
    (repeat' (first | refine st ?_ | (refine iw ?_ ?_ <;> intro h <;> try exact ko) | intro b))
    exact W_retE (.slice a n c) rfl ((en' (X := lockL l (sealO x key no head data).2 (o, mb) ++ [frz (.slice a n c) (sealO x key no head data).1.1.bytes, frz v3 head, frz v4 data])).trans ((ent_lock o mb _).trans en'))
theorem k255 {ro : HP} (l : Nat) (lk : Lk) (key : Pair) (no : Nonce) (v3 v4 : Value) (head : List UInt8) (s : Sealed) (ok : okL lk) (hl : head.length ≤ 2 ^ 30 ∧ s.bytes.length ≤ 2 ^ 30) :
    Fn Tryz.prog ro 255 [ptr l, agg key, agg no, v3, sealC s v4] [lockA l lk, frz v3 head, frz v4 s.bytes]
      fun r : Value => (.tuple ⟨[r, .bool (openL lk key no head s).2]⟩, [frz r (openL lk key no head s).1, lockA l lk, frz v3 head, frz v4 s.bytes]) := by
  refine c255 _ _ _ _ _ ?_
  unfold t255 sealC
  refine W_slO (v := v4) sees' ?_
  rintro a4 n4 c4 rfl
  refine st ?_
  intro b0
  refine st ?_
  intro b1
  refine st ?_
  intro b2
  refine st ?_
  refine st ?_
  cases lk with
  | real r =>
    unfold lockA
    refine W_draw [blk l [fv 161 [], fv 162 [], fv 163 [], fv 164 [nil], fv 165 [nil]], blk b0 (Enc.enc key), blk b1 (Enc.enc no), blk b2 [.slice a4 n4 c4, val s.tag.a, val s.tag.b]] sub' fun ro' hle hb => ?_
    obtain ⟨k1, hb⟩ := Kn.of_big hb
    obtain ⟨k2, hb⟩ := Kn.of_big hb
    obtain ⟨k3, hb⟩ := Kn.of_big hb
    obtain ⟨k4, hb⟩ := Kn.of_big hb
    (repeat' (first | refine st ?_ | (refine iw ?_ ?_ <;> intro h <;> try exact ko) | intro b))
    refine fnv (ok.opn ro' key no v3 (.slice a4 n4 c4) head s hl.1 hl.2) fun u => ?_
    refine nf ?_
    (repeat' (first | refine st ?_ | (refine iw ?_ ?_ <;> intro h <;> try exact ko) | intro b))
    refine fi ?_
    intro j
    refine nf ?_
    exact W_retE u rfl en'
  | ideal x =>
    refine W_exL (X := lockL l x) pk' fun b => ?_
    obtain ⟨o, mb⟩ := b
    unfold lockL
    refine nf ?_
    refine W_draw [blk l [fv 167 [ptr o], fv 168 [ptr o], fv 169 [ptr o], fv 164 [ptr o], fv 165 [ptr o]], blk b0 (Enc.enc key), blk b1 (Enc.enc no), blk b2 [.slice a4 n4 c4, val s.tag.a, val s.tag.b]] sub' fun ro' hle hb => ?_
    obtain ⟨k1, hb⟩ := Kn.of_big hb
    obtain ⟨k2, hb⟩ := Kn.of_big hb
    obtain ⟨k3, hb⟩ := Kn.of_big hb
    obtain ⟨k4, hb⟩ := Kn.of_big hb
    (repeat' (first | refine st ?_ | (refine iw ?_ ?_ <;> intro h <;> try exact ko) | intro b))
    refine fnv (k168 o mb x key no s v3 (.slice a4 n4 c4) head ok) fun u => ?_
    refine nf ?_
    (repeat' (first | refine st ?_ | (refine iw ?_ ?_ <;> intro h <;> try exact ko) | intro b))
    refine fi ?_
    intro j
    refine nf ?_
    exact W_retE u rfl ((en' (X := lockL l x (o, mb) ++ [frz u (openO x key no head s).1, frz v3 head, frz (.slice a4 n4 c4) s.bytes])).trans ((ent_lock o mb _).trans en'))
theorem k303 {ro : HP} (l : Nat) (lk : Lk) (v : Value) (rows : List (List UInt8)) (ok : okL lk) (hl : rows.flatten.length ≤ 2 ^ 30) (hr : rows.length ≤ 2 ^ 30) :
    Fn Tryz.prog ro 303 [ptr l, v] [lockA l lk, frz v rows] fun _ : Unit => (agg (sumL lk rows.flatten).1, [lockA l (sumL lk rows.flatten).2, frz v rows]) := by
  refine c303 _ _ ?_
  unfold t303
  refine st ?_
  intro b0
  refine st ?_
  refine st ?_
  cases lk with
  | real r =>
    unfold lockA
    (repeat' (first | refine st ?_ | (refine iw ?_ ?_ <;> intro h <;> try exact ko) | intro b))
    refine fnv (ok.sum ro v rows hl hr) fun u => ?_
    refine nf ?_
    (repeat' (first | refine st ?_ | (refine iw ?_ ?_ <;> intro h <;> try exact ko) | intro b))
    (first | exact retU | exact retB)
  | ideal x =>
    refine W_exL (X := lockL l x) pk' fun b => ?_
    obtain ⟨o, mb⟩ := b
    unfold lockL
    refine nf ?_
    (repeat' (first | refine st ?_ | (refine iw ?_ ?_ <;> intro h <;> try exact ko) | intro b))
    refine fnv (k169 o mb x v rows (by omega) (by omega) ok) fun u => ?_
    refine nf ?_
    (repeat' (first | refine st ?_ | (refine iw ?_ ?_ <;> intro h <;> try exact ko) | intro b))
    exact W_retE () rfl ((en' (X := lockL l (sumO x rows.flatten).2 (o, mb) ++ [frz v rows])).trans (ent_lock o mb _))
theorem k144 {ro : HP} (l : Nat) (lk : Lk) (ok : okL lk) : Fn Tryz.prog ro 144 [ptr l] [lockA l lk] fun r : Value => (r, [own r (issuedL lk), lockA l lk]) := by
  refine c144 _ ?_
  unfold t144
  cases lk with
  | real r =>
    unfold lockA
    (repeat' (first | refine st ?_ | (refine iw ?_ ?_ <;> intro h <;> try exact ko) | intro b))
    refine fnv k164n fun u => ?_
    refine nf ?_
    exact W_retE _ rfl ent_ownNil
  | ideal x =>
    refine W_exL (X := lockL l x) pk' fun b => ?_
    obtain ⟨o, mb⟩ := b
    unfold lockL
    refine nf ?_
    (repeat' (first | refine st ?_ | (refine iw ?_ ?_ <;> intro h <;> try exact ko) | intro b))
    refine fnv (k164 o mb x ok) fun u => ?_
    refine nf ?_
    exact W_retE u rfl ((en' (X := lockL l x (o, mb) ++ [own u x.issued])).trans ((ent_lock o mb _).trans (Ent.swap _ _ _)))
end Go.Lb
