/- Contracts: power. No statement of the seat is proved in this file. -/
import Derived.Test.YtkblnbbpeakgmaaGreatY
import Derived.Test.YtkblnbbpeakgmaaGreatU0
import Derived.Test.YtkblnbbpeakgmaaGreatU1
set_option linter.all false
namespace Go.Lb
open Go.Proofs
attribute [local irreducible] WT blk fzb own frz mp exL isA Ent Tri updE drawE At Kn See SeeS

abbrev ptr (b : Nat) : Value := .pointer (some ⟨b, 0, none⟩)
abbrev nil : Value := .pointer none
def w64 (n : Int) : Int := IntKind.i64.wrap n

structure Pw where
  gone : Bool
  fuse : Bool
  left : Int
  steps : Int
def powA (p : Nat) (w : Pw) : Asrt := blk p [.bool w.gone, .bool w.fuse, .int .i64 w.left, .int .i64 w.steps]
def spend (p : Pw) : Bool × Pw :=
  if p.gone then (false, p) else
  if p.fuse then (if p.left = 0 then (false, { p with gone := true }) else (true, { p with left := w64 (p.left - 1), steps := w64 (p.steps + 1) })) else (true, { p with steps := w64 (p.steps + 1) })

theorem k104 {ro : HP} (p : Nat) (w : Pw) : Fn Tryz.prog ro 104 [ptr p] [powA p w] fun _ : Unit => (.bool !w.gone, [powA p w]) := by
  refine c104 _ ?_
  unfold t104
  (repeat' (first | refine st ?_ | (refine iw ?_ ?_ <;> intro h <;> try exact ko) | intro b))
  (first | exact retU | exact retB)

theorem k110 {ro : HP} (p : Nat) (w : Pw) : Fn Tryz.prog ro 110 [ptr p] [powA p w] fun _ : Unit => (.bool (spend w).1, [powA p (spend w).2]) := by
  refine c110 _ ?_
  unfold t110
  refine W_fn (k104 p w) sub' fun _ => ?_
  (repeat' (first | refine st ?_ | (refine iw ?_ ?_ <;> intro h <;> try exact ko) | intro b))
  all_goals ((apply W_retF (); (case hv => simp [spend, *]); (case s => (try simp only [spend, *]); exact sub')))

def onP (w : Pw) : Bool := !w.gone
def fuseP (w : Pw) (n : Int) : Pw := { w with fuse := decide (0 ≤ n), left := n }
def backP (w : Pw) : Pw := { w with gone := false, fuse := false }

theorem k92 {ro : HP} : Fn Tryz.prog ro 92 [] [] fun p : Nat => (ptr p, [powA p ⟨false, false, 0, 0⟩]) := by
  refine c92 ?_
  unfold t92
  (repeat' (first | refine st ?_ | (refine iw ?_ ?_ <;> intro h <;> try exact ko) | intro b))
  (first | exact retU | exact retB)
theorem k65 {ro : HP} (p : Nat) (w : Pw) : Fn Tryz.prog ro 65 [ptr p] [powA p w] fun _ : Unit => (.int .i64 w.steps, [powA p w]) := by
  refine c65 _ ?_
  unfold t65
  (repeat' (first | refine st ?_ | (refine iw ?_ ?_ <;> intro h <;> try exact ko) | intro b))
  (apply W_retF (); (case hv => simp [*]); (case s => (try simp only [*]); exact sub'))
theorem k36 {ro : HP} (p : Nat) (w : Pw) (n : Int) : Fn Tryz.prog ro 36 [ptr p, .int .i64 n] [powA p w] fun _ : Unit => (.tuple #[], [powA p (fuseP w n)]) := by
  refine c36 _ _ ?_
  unfold t36
  (repeat' (first | refine st ?_ | (refine iw ?_ ?_ <;> intro h <;> try exact ko) | intro b))
  (apply W_retF (); (case hv => simp [fuseP, *]); (case s => (try simp only [fuseP, *]); exact sub'))
theorem k109 {ro : HP} (p : Nat) (w : Pw) : Fn Tryz.prog ro 109 [ptr p] [powA p w] fun _ : Unit => (.tuple #[], [powA p (backP w)]) := by
  refine c109 _ ?_
  unfold t109
  (repeat' (first | refine st ?_ | (refine iw ?_ ?_ <;> intro h <;> try exact ko) | intro b))
  (apply W_retF (); (case hv => simp [backP, *]); (case s => (try simp only [backP, *]); exact sub'))
end Go.Lb
