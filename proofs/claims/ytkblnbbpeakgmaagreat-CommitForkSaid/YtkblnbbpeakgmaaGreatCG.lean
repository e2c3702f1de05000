/- Contracts: ssd. No statement of the seat is proved in this file. -/
import Derived.Test.YtkblnbbpeakgmaaGreatCF
set_option linter.all false
namespace Go.Lb
open Go.Proofs
attribute [local irreducible] WT blk fzb own frz mp exL isA Ent Tri updE drawE At Kn See SeeS

structure Sd where
  lasts : List UInt8
  waits : List DOp
  trace : List DOp
def ssdL (s p : Nat) (x : Sd) (v : Value × Value × Value) : List Asrt := [blk s [ptr p, v.1, v.2.1, v.2.2], own v.1 x.lasts, own v.2.1 x.waits, own v.2.2 x.trace]
def ssdA (s p : Nat) (x : Sd) : Asrt := exL (ssdL s p x)
theorem ent_ssd {s p : Nat} {x : Sd} (v1 v2 v3 : Value) (S : List Asrt) : Ent (blk s [ptr p, v1, v2, v3] :: own v1 x.lasts :: own v2 x.waits :: own v3 x.trace :: S) (ssdA s p x :: S) := Ent.exL (X := ssdL s p x) (v1, v2, v3) S

theorem k149 {ro : HP} {off : Int} {v : Value} {bs : List UInt8} (hl : bs.length ≤ 2 ^ 40) : Fn Tryz.prog ro 149 [.agg ⟨[.int .i64 off, v]⟩] [frz v bs] fun r : Value => (.agg ⟨[.int .i64 off, r]⟩, [frz r bs, frz v bs]) := by
  refine c149 _ ?_
  unfold t149
  (refine W_slO (v := v) sees' ?_; rintro a n c rfl)
  apply W_bxAgg
  intro b0
  apply W_nw
  intro b1
  refine W_draw [blk b0 [.int .i64 off, .slice a n c]] sub' fun ro' hle hb => ?_
  obtain ⟨k1, _⟩ := Kn.of_big hb
  (repeat' (first | refine st ?_ | (refine iw ?_ ?_ <;> intro h <;> try exact ko) | intro b))
  refine fn (k111F (v := .slice a n c) (xs := bs) hl) fun r => ?_
  refine nf ?_
  refine W_frzS (v := r) pk' ?_
  refine W_slO (v := r) (xs := bs) sees' ?_
  rintro a' n' c' rfl
  (repeat' (first | refine st ?_ | (refine iw ?_ ?_ <;> intro h <;> try exact ko) | intro b))
  refine fi ?_
  intro j
  refine nf ?_
  (repeat' (first | refine st ?_ | (refine iw ?_ ?_ <;> intro h <;> try exact ko) | intro b))
  (first | exact retU | exact retB)

/-! what is within -/
abbrev inS (x : Sd) (off n : Int) : Prop := 0 ≤ off ∧ 0 ≤ n ∧ off ≤ x.lasts.length ∧ n ≤ x.lasts.length - off
theorem k112 {ro : HP} (s p : Nat) (x : Sd) : Fn Tryz.prog ro 112 [ptr s] [ssdA s p x] fun _ : Unit => (.int .i64 x.lasts.length, [ssdA s p x]) := by
  refine c112 _ ?_
  unfold t112
  refine W_exL (X := ssdL s p x) pk' fun v => ?_
  obtain ⟨v1, v2, v3⟩ := v
  unfold ssdL
  refine nf ?_
  (repeat' (first | refine st ?_ | (refine iw ?_ ?_ <;> intro h <;> try exact ko) | intro b))
  exact W_retE () rfl (ent_ssd v1 v2 v3 [])
theorem k113 {ro : HP} (s p : Nat) (x : Sd) (off n : Int) (hl : x.lasts.length ≤ 65536) : Fn Tryz.prog ro 113 [ptr s, .int .i64 off, .int .i64 n] [ssdA s p x] fun _ : Unit => (.bool (decide (inS x off n)), [ssdA s p x]) := by
  refine c113 _ _ _ ?_
  unfold t113
  (repeat' (first | refine st ?_ | (refine iw ?_ ?_ <;> intro h <;> try exact ko) | intro b))
  · refine fn (k112 s p x) fun _ => ?_
    refine nf ?_
    (repeat' (first | refine st ?_ | (refine iw ?_ ?_ <;> intro h <;> try exact ko) | intro b))
    · refine fn (k112 s p x) fun _ => ?_
      refine nf ?_
      (repeat' (first | refine st ?_ | (refine iw ?_ ?_ <;> intro h <;> try exact ko) | intro b))
      exact W_retF () (by congr 1; rw [Bool.eq_iff_iff]; simp only [decide_eq_true_eq, inS]; omega) sub'
    · exact W_retF () (by congr 1; rw [Bool.eq_iff_iff]; simp only [decide_eq_true_eq, inS, Bool.false_eq_true, false_iff]; omega) sub'
  · exact W_retF () (by congr 1; rw [Bool.eq_iff_iff]; simp only [decide_eq_true_eq, inS, Bool.false_eq_true, false_iff]; omega) sub'
  · exact W_retF () (by congr 1; rw [Bool.eq_iff_iff]; simp only [decide_eq_true_eq, inS, Bool.false_eq_true, false_iff]; omega) sub'

theorem ent_op {off : Int} {r : Value} {bs : List UInt8} {S : List Asrt} (m : Mem (frz r bs) S) : Ent S (isA (.agg ⟨[.int .i64 off, r]⟩) (⟨off, bs⟩ : DOp) :: S) :=
  let ⟨_, p⟩ := m.pick
  p.to (frz_dup _ _) fun g f => (show isA (.agg ⟨[.int .i64 off, r]⟩) (⟨off, bs⟩ : DOp) g by
    with_unfolding_all exact ⟨r, rfl, f⟩)
def writeS (w : Pw) (x : Sd) (off : Int) (bs : List UInt8) : Bool × Pw × Sd :=
  if inS x off bs.length then (if (spend w).1 then (true, (spend w).2, { x with waits := x.waits ++ [⟨off, bs⟩], trace := x.trace ++ [⟨off, bs⟩] }) else (false, (spend w).2, x)) else (false, w, x)
theorem k175 {ro : HP} (s p : Nat) (w : Pw) (x : Sd) (off : Int) (v : Value) (bs : List UInt8) (hl : x.lasts.length ≤ 65536) (h1 : x.waits.length ≤ 2 ^ 30) (h2 : x.trace.length ≤ 2 ^ 30) :
    Fn Tryz.prog ro 175 [ptr s, .int .i64 off, v] [ssdA s p x, powA p w, frz v bs] fun _ : Unit => (.bool (writeS w x off bs).1, [ssdA s p (writeS w x off bs).2.2, powA p (writeS w x off bs).2.1, frz v bs]) := by
  refine c175 _ _ _ ?_
  unfold t175
  (refine W_slO (v := v) sees' ?_; rintro a n c rfl)
  (repeat' (first | refine st ?_ | (refine iw ?_ ?_ <;> intro h <;> try exact ko) | intro b))
  refine fn (k113 s p x off bs.length hl) fun _ => ?_
  refine nf ?_
  (repeat' (first | refine st ?_ | (refine iw ?_ ?_ <;> intro h <;> try exact ko) | intro b))
  · (apply W_retF (); (case hv => simp [writeS, *]); (case s => (try simp only [writeS, *]); exact sub'))
  · have hb : bs.length ≤ 2 ^ 40 := by omega
    refine W_exL (X := ssdL s p x) pk' fun vs => ?_
    obtain ⟨v1, v2, v3⟩ := vs
    unfold ssdL
    refine nf ?_
    (repeat' (first | refine st ?_ | (refine iw ?_ ?_ <;> intro h <;> try exact ko) | intro b))
    refine fn (k110 p w) fun _ => ?_
    refine nf ?_
    (repeat' (first | refine st ?_ | (refine iw ?_ ?_ <;> intro h <;> try exact ko) | intro b))
    · have e : writeS w x off bs = (false, (spend w).2, x) := by unfold writeS; rw [if_pos (by assumption), if_neg (by simp [h])]
      rw [e]
      refine W_retE () rfl ?_
      refine (Sub.ent' (l := [blk s [ptr p, v1, v2, v3], own v1 x.lasts, own v2 x.waits, own v3 x.trace, powA p (spend w).2, frz (.slice a n c) bs]) sub').trans ?_
      exact ent_ssd v1 v2 v3 _
    · have e : writeS w x off bs = (true, (spend w).2, { x with waits := x.waits ++ [⟨off, bs⟩], trace := x.trace ++ [⟨off, bs⟩] }) := by unfold writeS; rw [if_pos (by assumption), if_pos (by simp [h])]
      rw [e]
      refine W_draw [blk s [ptr p, v1, v2, v3], blk b [.int .i64 off, .slice a n c]] sub' fun ro' hle hb' => ?_
      obtain ⟨k1, hb'⟩ := Kn.of_big hb'
      obtain ⟨k2, _⟩ := Kn.of_big hb'
      (repeat' (first | refine st ?_ | (refine iw ?_ ?_ <;> intro h <;> try exact ko) | intro b))
      refine fn (k149 (off := off) (v := .slice a n c) (bs := bs) hb) fun r => ?_
      refine nf ?_
      refine W_app1 (xs := x.waits) (y := (⟨off, bs⟩ : DOp)) pk' (ent_op mem') rfl ⟨rfl, by decide, by decide⟩ (by omega) fun v2' => ?_
      refine W_slO (v := v2') (xs := x.waits ++ [(⟨off, bs⟩ : DOp)]) sees' ?_
      rintro a' n' c' rfl
      refine fi ?_
      intro j
      refine nf ?_
      (repeat' (first | refine st ?_ | (refine iw ?_ ?_ <;> intro h <;> try exact ko) | intro b))
      refine W_draw [blk s [ptr p, v1, .slice a' n' c', v3], blk b [.int .i64 off, .slice a n c]] sub' fun ro' hle hb' => ?_
      obtain ⟨k1, hb'⟩ := Kn.of_big hb'
      obtain ⟨k2, _⟩ := Kn.of_big hb'
      (repeat' (first | refine st ?_ | (refine iw ?_ ?_ <;> intro h <;> try exact ko) | intro b))
      refine fn (k149 (off := off) (v := .slice a n c) (bs := bs) hb) fun r => ?_
      refine nf ?_
      refine W_app1 (xs := x.trace) (y := (⟨off, bs⟩ : DOp)) pk' (ent_op mem') rfl ⟨rfl, by decide, by decide⟩ (by omega) fun v3' => ?_
      refine W_slO (v := v3') (xs := x.trace ++ [(⟨off, bs⟩ : DOp)]) sees' ?_
      rintro a2 n2 c2 rfl
      refine fi ?_
      intro j
      refine nf ?_
      (repeat' (first | refine st ?_ | (refine iw ?_ ?_ <;> intro h <;> try exact ko) | intro b))
      refine W_retE () rfl ?_
      refine (Sub.ent' (l := [blk s [ptr p, v1, .slice a' n' c', .slice a2 n2 c2], own v1 x.lasts, own (.slice a' n' c') (x.waits ++ [(⟨off, bs⟩ : DOp)]), own (.slice a2 n2 c2) (x.trace ++ [(⟨off, bs⟩ : DOp)]), powA p (spend w).2, frz (.slice a n c) bs]) sub').trans ?_
      exact ent_ssd (x := ⟨x.lasts, x.waits ++ [⟨off, bs⟩], x.trace ++ [⟨off, bs⟩]⟩) v1 _ _ _
end Go.Lb
