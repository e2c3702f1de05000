/- Contracts: nonce, count, ssd. No statement of the seat is proved in this file. -/
import Derived.Test.YtkblnbbpeakgmaaGreatCE
set_option linter.all false
namespace Go.Lb
open Go.Proofs
attribute [local irreducible] WT blk fzb own frz mp exL isA Ent Tri updE drawE At Kn See SeeS

theorem k38 {ro : HP} (c p : Nat) (w : Pw) (x : Cn) : Fn Tryz.prog ro 38 [ptr c] [cntA c p x, powA p w] fun _ : Unit => (.bool (bootC w x).1, [cntA c p (bootC w x).2.2, powA p (bootC w x).2.1]) := by
  refine c38 _ ?_
  unfold t38
  (repeat' (first | refine st ?_ | (refine iw ?_ ?_ <;> intro h <;> try exact ko) | intro b))
  refine fn (k110 p w) fun _ => ?_
  refine nf ?_
  (repeat' (first | refine st ?_ | (refine iw ?_ ?_ <;> intro h <;> try exact ko) | intro b))
  · (apply W_retF (); (case hv => simp [bootC, *]); (case s => (try simp only [bootC, *]); exact sub'))
  · (apply W_retF (); (case hv => simp [bootC, *]); (case s => (try simp only [bootC, *]); exact sub'))
theorem k39 {ro : HP} (c p : Nat) (x : Cn) : Fn Tryz.prog ro 39 [ptr c] [cntA c p x] fun _ : Unit => (val x.boots, [cntA c p x]) := by
  refine c39 _ ?_
  unfold t39
  (repeat' (first | refine st ?_ | (refine iw ?_ ?_ <;> intro h <;> try exact ko) | intro b))
  (first | exact retU | exact retB)

/-- the next number; an error -/
def nextN (x : Mkr) (ep : UInt32) (slot : Int) : Nonce × Int × Mkr :=
  if slot < 0 ∨ 65535 < slot then (zNonce, 1, x) else
  if 100 - x.n = 0 then (zNonce, 6, x) else (⟨ep, UInt32.ofInt slot, shl64 x.boot 32 + UInt64.ofInt (x.n + 1)⟩, 0, { x with n := x.n + 1 })
theorem k180 {ro : HP} (m : Nat) (x : Mkr) (ep : UInt32) (slot : Int) (hx : 0 ≤ x.n ∧ x.n ≤ 100) : Fn Tryz.prog ro 180 [ptr m, val ep, .int .i64 slot] [mkA m x] fun _ : Unit => (.tuple ⟨[agg (nextN x ep slot).1, .int .i64 (nextN x ep slot).2.1]⟩, [mkA m (nextN x ep slot).2.2]) := by
  refine c180 _ _ _ ?_
  unfold t180
  (repeat' (first | refine st ?_ | (refine iw ?_ ?_ <;> intro h <;> try exact ko) | intro b))
  · have e : nextN x ep slot = (zNonce, 1, x) := by unfold nextN; rw [if_pos (by omega)]
    rw [e]
    (first | exact retU | exact retB)
  · have e : nextN x ep slot = (zNonce, 1, x) := by unfold nextN; rw [if_pos (by omega)]
    rw [e]
    (first | exact retU | exact retB)
  · refine fn (k197 m x hx) fun _ => ?_
    refine nf ?_
    (repeat' (first | refine st ?_ | (refine iw ?_ ?_ <;> intro h <;> try exact ko) | intro b))
    · have e : nextN x ep slot = (zNonce, 6, x) := by unfold nextN; rw [if_neg (by omega), if_pos (by omega)]
      rw [e]
      (first | exact retU | exact retB)
    · have e : nextN x ep slot = (⟨ep, UInt32.ofInt slot, shl64 x.boot 32 + UInt64.ofInt (x.n + 1)⟩, 0, { x with n := x.n + 1 }) := by unfold nextN; rw [if_neg (by omega), if_neg (by omega)]
      rw [e]
      refine W_draw [blk m [val x.boot, .int .i64 (x.n + 1)]] sub' fun ro' hle hb => ?_
      obtain ⟨k1, _⟩ := Kn.of_big hb
      (repeat' (first | refine st ?_ | (refine iw ?_ ?_ <;> intro h <;> try exact ko) | intro b))
      refine fi ?_
      intro j
      refine nf ?_
      (repeat' (first | refine st ?_ | (refine iw ?_ ?_ <;> intro h <;> try exact ko) | intro b))
      (first | exact retU | exact retB)
end Go.Lb
