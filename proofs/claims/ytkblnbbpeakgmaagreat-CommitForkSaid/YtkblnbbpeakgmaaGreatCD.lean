/- Contracts: geom, count, nonce. No statement of the seat is proved in this file. -/
import Derived.Test.YtkblnbbpeakgmaaGreatCC
set_option linter.all false
namespace Go.Lb
open Go.Proofs
attribute [local irreducible] WT blk fzb own frz mp exL isA Ent Tri updE drawE At Kn See SeeS

/-! ### geom -/
def gv (n : Int) : Value := .agg ⟨[.int .i64 n]⟩
abbrev isG (n : Int) : Prop := n = 4 ∨ n = 8 ∨ n = 16
abbrev gAmong (n i many : Int) : Prop := (n = 4 ∨ n = 8 ∨ n = 16) ∧ 0 ≤ i ∧ i < many
def gRec (n i : Int) : Int := if gAmong n i 2 then n * 160 + i * 60 else -1
def gSize (n : Int) : Int := if isG n then n * 160 + 120 else 0
def gLeaf (n a s : Int) : Int := if gAmong n a 2 ∧ gAmong n s n then n * 32 + a * (n * 64) + s * 32 else -1
def gNode (n a i : Int) : Int := if gAmong n a 2 ∧ gAmong n i (2 * n) then n * 32 + a * (n * 64) + n * 32 + i * 16 else -1
def gData (n s : Int) : Int := if gAmong n s n then s * 32 else -1

theorem k91 {ro : HP} (n : Int) : Fn Tryz.prog ro 91 [.int .i64 n] [] fun _ : Unit => (.bool (decide (isG n)), []) := by
  refine c91 _ ?_
  unfold t91
  (repeat' (first | refine st ?_ | (refine iw ?_ ?_ <;> intro h <;> try simp only [gAmong, isG] at h <;> try exact ko) | intro b))
  · (apply W_retF (); (case hv => simp [isG, *]); (case s => (try simp only [isG, *]); exact sub'))
  · (apply W_retF (); (case hv => simp [isG, *]); (case s => (try simp only [isG, *]); exact sub'))
  · exact W_retF () (by congr 1; rw [Bool.eq_iff_iff]; simp [isG, *]) sub'
theorem k247 {ro : HP} (n : Int) (h : -100 ≤ n ∧ n ≤ 100) : Fn Tryz.prog ro 247 [gv n] [] fun _ : Unit => (.int .i64 (n * 64), []) := by
  refine c247 _ ?_
  unfold t247
  (repeat' (first | refine st ?_ | (refine iw ?_ ?_ <;> intro h <;> try simp only [gAmong, isG] at h <;> try exact ko) | intro b))
  (first | exact retU | exact retB)
theorem k246 {ro : HP} (n i many : Int) : Fn Tryz.prog ro 246 [gv n, .int .i64 i, .int .i64 many] [] fun _ : Unit => (.bool (decide (gAmong n i many)), []) := by
  refine c246 _ _ _ ?_
  unfold t246
  (repeat' (first | refine st ?_ | (refine iw ?_ ?_ <;> intro h <;> try simp only [gAmong, isG] at h <;> try exact ko) | intro b))
  refine fn (k91 n) fun _ => ?_
  refine nf ?_
  (repeat' (first | refine st ?_ | (refine iw ?_ ?_ <;> intro h <;> try simp only [gAmong, isG] at h <;> try exact ko) | intro b))
  all_goals (apply W_retF () (hv := by (congr 1; rw [Bool.eq_iff_iff]; simp only [decide_eq_true_eq, gAmong, Bool.false_eq_true, false_iff]; omega)); exact sub')
theorem k170 {ro : HP} (n i : Int) : Fn Tryz.prog ro 170 [gv n, .int .i64 i] [] fun _ : Unit => (.int .i64 (gRec n i), []) := by
  refine c170 _ _ ?_
  unfold t170
  (repeat' (first | refine st ?_ | (refine iw ?_ ?_ <;> intro h <;> try simp only [gAmong, isG] at h <;> try exact ko) | intro b))
  refine fn (k246 n i 2) fun _ => ?_
  refine nf ?_
  (repeat' (first | refine st ?_ | (refine iw ?_ ?_ <;> intro h <;> try simp only [gAmong, isG] at h <;> try exact ko) | intro b))
  · (apply W_retF (); (case hv => simp [gRec, *]); (case s => (try simp only [gRec, *]); exact sub'))
  · skip
    refine W_draw [blk b [.int .i64 n]] sub' fun ro' hle hb => ?_
    obtain ⟨k1, _⟩ := Kn.of_big hb
    (repeat' (first | refine st ?_ | (refine iw ?_ ?_ <;> intro h <;> try simp only [gAmong, isG] at h <;> try exact ko) | intro b))
    refine fn (k247 n (by omega)) fun _ => ?_
    refine nf ?_
    (repeat' (first | refine st ?_ | (refine iw ?_ ?_ <;> intro h <;> try simp only [gAmong, isG] at h <;> try exact ko) | intro b))
    refine fi ?_
    intro j
    refine nf ?_
    have : gRec n i = n * 32 + 2 * (n * 64) + i * 60 := by unfold gRec; rw [if_pos h]; omega
    rw [this]
    (first | exact retU | exact retB)
theorem k96 {ro : HP} (n : Int) : Fn Tryz.prog ro 96 [gv n] [] fun _ : Unit => (.int .i64 (gSize n), []) := by
  refine c96 _ ?_
  unfold t96
  (repeat' (first | refine st ?_ | (refine iw ?_ ?_ <;> intro h <;> try simp only [gAmong, isG] at h <;> try exact ko) | intro b))
  refine fn (k91 n) fun _ => ?_
  refine nf ?_
  (repeat' (first | refine st ?_ | (refine iw ?_ ?_ <;> intro h <;> try simp only [gAmong, isG] at h <;> try exact ko) | intro b))
  · (apply W_retF (); (case hv => simp [gSize, *]); (case s => (try simp only [gSize, *]); exact sub'))
  · skip
    refine fn (k170 n 1) fun _ => ?_
    refine nf ?_
    have h2 : gRec n 1 = n * 160 + 60 := by unfold gRec; rw [if_pos (by omega)]; omega
    rw [h2]
    (repeat' (first | refine st ?_ | (refine iw ?_ ?_ <;> intro h <;> try simp only [gAmong, isG] at h <;> try exact ko) | intro b))
    have : gSize n = n * 160 + 60 + 60 := by unfold gSize; rw [if_pos h]; omega
    rw [this]
    (first | exact retU | exact retB)
theorem k176 {ro : HP} (n a s : Int) : Fn Tryz.prog ro 176 [gv n, .int .i64 a, .int .i64 s] [] fun _ : Unit => (.int .i64 (gLeaf n a s), []) := by
  refine c176 _ _ _ ?_
  unfold t176
  (repeat' (first | refine st ?_ | (refine iw ?_ ?_ <;> intro h <;> try simp only [gAmong, isG] at h <;> try exact ko) | intro b))
  refine fn (k246 n a 2) fun _ => ?_
  refine nf ?_
  (repeat' (first | refine st ?_ | (refine iw ?_ ?_ <;> intro h <;> try simp only [gAmong, isG] at h <;> try exact ko) | intro b))
  · (apply W_retF (); (case hv => simp [gLeaf, *]); (case s => (try simp only [gLeaf, *]); exact sub'))
  · skip
    refine fn (k246 n s n) fun _ => ?_
    refine nf ?_
    (repeat' (first | refine st ?_ | (refine iw ?_ ?_ <;> intro h <;> try simp only [gAmong, isG] at h <;> try exact ko) | intro b))
    · (apply W_retF (); (case hv => simp [gLeaf, *]); (case s => (try simp only [gLeaf, *]); exact sub'))
    · skip
      refine W_draw [blk b [.int .i64 n]] sub' fun ro' hle hb => ?_
      obtain ⟨k1, _⟩ := Kn.of_big hb
      (repeat' (first | refine st ?_ | (refine iw ?_ ?_ <;> intro h <;> try simp only [gAmong, isG] at h <;> try exact ko) | intro b))
      refine fn (k247 n (by omega)) fun _ => ?_
      refine nf ?_
      have ha : a * (n * 64) = 0 ∨ a * (n * 64) = n * 64 := by
        rcases (show a = 0 ∨ a = 1 by omega) with rfl | rfl
        · left; omega
        · right; omega
      (repeat' (first | refine st ?_ | (refine iw ?_ ?_ <;> intro h <;> try simp only [gAmong, isG] at h <;> try exact ko) | intro b))
      refine fi ?_
      intro j
      refine nf ?_
      have : gLeaf n a s = n * 32 + a * (n * 64) + s * 32 := by unfold gLeaf; rw [if_pos (by omega)]
      rw [this]
      (first | exact retU | exact retB)
theorem k250 {ro : HP} (n a : Int) (h : isG n) (ha : 0 ≤ a ∧ a < 2) : Fn Tryz.prog ro 250 [gv n, .func (.func 176) ⟨[]⟩ ⟨[]⟩, .int .i64 a] [] fun _ : Unit => (.int .i64 (n * 32 + a * (n * 64) + n * 32), []) := by
  refine c250 _ _ _ ?_
  unfold t250
  (repeat' (first | refine st ?_ | (refine iw ?_ ?_ <;> intro h <;> try simp only [gAmong, isG] at h <;> try exact ko) | intro b))
  refine W_fnv rfl (k176 n a (n - 1)) sub' (fun _ => ?_)
  have : gLeaf n a (n - 1) = n * 32 + a * (n * 64) + (n - 1) * 32 := by
    unfold gLeaf; rw [if_pos (by omega)]
  rw [this]
  refine nf ?_
  have ha' : a * (n * 64) = 0 ∨ a * (n * 64) = n * 64 := by
    rcases (show a = 0 ∨ a = 1 by omega) with rfl | rfl
    · left; omega
    · right; omega
  (repeat' (first | refine st ?_ | (refine iw ?_ ?_ <;> intro h <;> try simp only [gAmong, isG] at h <;> try exact ko) | intro b))
  have : n * 32 + a * (n * 64) + (n - 1) * 32 + 32 = n * 32 + a * (n * 64) + n * 32 := by omega
  rw [this]
  (first | exact retU | exact retB)
theorem k177 {ro : HP} (n a i : Int) : Fn Tryz.prog ro 177 [gv n, .int .i64 a, .int .i64 i] [] fun _ : Unit => (.int .i64 (gNode n a i), []) := by
  refine c177 _ _ _ ?_
  unfold t177
  (repeat' (first | refine st ?_ | (refine iw ?_ ?_ <;> intro h <;> try simp only [gAmong, isG] at h <;> try exact ko) | intro b))
  refine fn (k246 n a 2) fun _ => ?_
  refine nf ?_
  (repeat' (first | refine st ?_ | (refine iw ?_ ?_ <;> intro h <;> try simp only [gAmong, isG] at h <;> try exact ko) | intro b))
  · (apply W_retF (); (case hv => simp [gNode, *]); (case s => (try simp only [gNode, *]); exact sub'))
  · skip
    refine fn (k246 n i (2 * n)) fun _ => ?_
    refine nf ?_
    (repeat' (first | refine st ?_ | (refine iw ?_ ?_ <;> intro h <;> try simp only [gAmong, isG] at h <;> try exact ko) | intro b))
    · (apply W_retF (); (case hv => simp [gNode, *]); (case s => (try simp only [gNode, *]); exact sub'))
    · skip
      refine fn (k250 n a (by omega) (by omega)) fun _ => ?_
      refine nf ?_
      have ha' : a * (n * 64) = 0 ∨ a * (n * 64) = n * 64 := by
        rcases (show a = 0 ∨ a = 1 by omega) with rfl | rfl
        · left; omega
        · right; omega
      (repeat' (first | refine st ?_ | (refine iw ?_ ?_ <;> intro h <;> try simp only [gAmong, isG] at h <;> try exact ko) | intro b))
      have : gNode n a i = n * 32 + a * (n * 64) + n * 32 + i * 16 := by unfold gNode; rw [if_pos (by omega)]
      rw [this]
      (first | exact retU | exact retB)

/-! ### count -/
structure Cn where
  value : UInt64
  boots : UInt64
  at' : UInt64
def cntA (c p : Nat) (x : Cn) : Asrt := blk c [ptr p, val x.value, val x.boots, val x.at']
def zCn : Cn := ⟨0, 0, 0⟩
def bump (w : Pw) (x : Cn) : Bool × Pw × Cn := if (spend w).1 then (true, (spend w).2, { x with value := x.value + 1, at' := x.boots }) else (false, (spend w).2, x)
def bootC (w : Pw) (x : Cn) : Bool × Pw × Cn := if (spend w).1 then (true, (spend w).2, { x with boots := x.boots + 1 }) else (false, (spend w).2, x)

theorem k98 {ro : HP} (p : Nat) : Fn Tryz.prog ro 98 [ptr p] [] fun c : Nat => (ptr c, [cntA c p zCn]) := by
  refine c98 _ ?_
  unfold t98
  (repeat' (first | refine st ?_ | (refine iw ?_ ?_ <;> intro h <;> try simp only [gAmong, isG] at h <;> try exact ko) | intro b))
  (first | exact retU | exact retB)
theorem k34 {ro : HP} (c p : Nat) (x : Cn) : Fn Tryz.prog ro 34 [ptr c] [cntA c p x] fun _ : Unit => (val x.value, [cntA c p x]) := by
  refine c34 _ ?_
  unfold t34
  (repeat' (first | refine st ?_ | (refine iw ?_ ?_ <;> intro h <;> try simp only [gAmong, isG] at h <;> try exact ko) | intro b))
  (first | exact retU | exact retB)
theorem k254 {ro : HP} (c p : Nat) (x : Cn) : Fn Tryz.prog ro 254 [ptr c] [cntA c p x] fun _ : Unit => (val x.at', [cntA c p x]) := by
  refine c254 _ ?_
  unfold t254
  (repeat' (first | refine st ?_ | (refine iw ?_ ?_ <;> intro h <;> try simp only [gAmong, isG] at h <;> try exact ko) | intro b))
  (first | exact retU | exact retB)
theorem k103 {ro : HP} (c p : Nat) (w : Pw) (x : Cn) : Fn Tryz.prog ro 103 [ptr c] [cntA c p x, powA p w] fun _ : Unit => (.bool (bump w x).1, [cntA c p (bump w x).2.2, powA p (bump w x).2.1]) := by
  refine c103 _ ?_
  unfold t103
  (repeat' (first | refine st ?_ | (refine iw ?_ ?_ <;> intro h <;> try simp only [gAmong, isG] at h <;> try exact ko) | intro b))
  refine fn (k110 p w) fun _ => ?_
  refine nf ?_
  (repeat' (first | refine st ?_ | (refine iw ?_ ?_ <;> intro h <;> try simp only [gAmong, isG] at h <;> try exact ko) | intro b))
  · (apply W_retF (); (case hv => simp [bump, *]); (case s => (try simp only [bump, *]); exact sub'))
  · (apply W_retF (); (case hv => simp [bump, *]); (case s => (try simp only [bump, *]); exact sub'))
end Go.Lb
