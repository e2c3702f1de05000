/- Contracts: wire. No statement of the seat is proved in this file. -/
import Derived.Test.YtkblnbbpeakgmaaGreatCB
set_option linter.all false
namespace Go.Lb
open Go.Proofs
attribute [local irreducible] WT blk fzb own frz mp exL isA Ent Tri updE drawE At Kn See SeeS



def fillTo {α : Type} (n : Nat) (f : Nat → α) (z : α) (i : Nat) : List α := (List.range n).map fun j => if j < i then f j else z
theorem fillTo_len {α : Type} {n i : Nat} {f : Nat → α} {z : α} : (fillTo n f z i).length = n := by simp [fillTo]
theorem fillTo_zero {α : Type} {n : Nat} {f : Nat → α} {z : α} : fillTo n f z 0 = List.replicate n z := by
  apply List.ext_getElem <;> simp [fillTo]
theorem fillTo_set {α : Type} {n i : Nat} {f : Nat → α} {z : α} : (fillTo n f z i).set i (f i) = fillTo n f z (i + 1) := by
  apply List.ext_getElem
  · simp [fillTo]
  · intro j h1 h2
    simp only [fillTo, List.getElem_set, List.getElem_map, List.getElem_range]
    by_cases hj : i = j
    · subst hj; simp
    · simp only [hj, if_false]
      by_cases h : j < i
      · rw [if_pos h, if_pos (by omega)]
      · rw [if_neg h, if_neg (by omega)]
theorem fillTo_all {α : Type} {n : Nat} {f : Nat → α} {z : α} : fillTo n f z n = (List.range n).map f := by
  unfold fillTo
  exact List.map_congr_left fun j hj => by rw [if_pos (List.mem_range.1 hj)]

/-- a number's lowest bytes -/
@[irreducible] def putB (v : UInt64) (n : Nat) : List UInt8 := if 1 ≤ n ∧ n ≤ 8 then (List.range n).map (fun i => (shr64 v (8 * (n - 1 - i))).toUInt8) else []
@[irreducible] def gstep (v : UInt64) (c : UInt8) : UInt64 := shl64 v 8 ||| c.toUInt64
@[irreducible] def getB (b : List UInt8) : UInt64 × Bool := if 1 ≤ b.length ∧ b.length ≤ 8 then (b.foldl gstep 0, true) else (0, false)

theorem k240 {ro : HP} (v : UInt64) (n : Nat) : Fn Tryz.prog ro 240 [val v, .int .i64 n] [] fun r : Value => (r, [own r (putB v n)]) := by
  refine c240 _ _ ?_
  unfold t240
  (repeat' (first | refine st ?_ | (refine iw ?_ ?_ <;> intro h <;> try exact ko) | intro b))
  · have : putB v n = [] := by unfold putB; rw [if_neg (by omega)]
    rw [this]
    exact W_retE _ rfl ent_ownNil
  · have : putB v n = [] := by unfold putB; rw [if_neg (by omega)]
    rw [this]
    exact W_retE _ rfl ent_ownNil
  · refine W_mkS (z := (0 : UInt8)) rfl (fun _ => rfl) (by omega) fun x => ?_
    simp only [Int.toNat_natCast]
    rw [← fillTo_zero (f := fun i => (shr64 v (8 * (n - 1 - i))).toUInt8)]
    (repeat' (first | refine st ?_ | (refine iw ?_ ?_ <;> intro h <;> try exact ko) | intro b))
    refine W_loop (I := fun m vs S' => ∃ i : Nat, i ≤ n ∧ m = n - i ∧ vs = [.int .i64 i] ∧ S' = [own x (fillTo n (fun i => (shr64 v (8 * (n - 1 - i))).toUInt8) 0 i)]) n (Ent.refl _) ⟨0, by omega, by omega, rfl, rfl⟩ ?_
    rintro m vs j S' ⟨i, hi, rfl, rfl, rfl⟩
    refine nf ?_
    rw [fillTo_len]
    (repeat' (first | refine st ?_ | (refine iw ?_ ?_ <;> intro h <;> try exact ko) | intro b))
    · rename_i hlt
      refine W_ixst (y := (shr64 v (8 * (n - 1 - i))).toUInt8) pk' (by
        have : (8 * ((n : Int) - 1 - i)).toNat = 8 * (n - 1 - i) := by omega
        rw [this]; exact ent_val) rfl (by omega) (by rw [fillTo_len]; omega) ?_
      rw [Int.toNat_natCast, fillTo_set]
      (repeat' (first | refine st ?_ | (refine iw ?_ ?_ <;> intro h <;> try exact ko) | intro b))
      refine fi ?_
      exact ⟨n - (i + 1), by omega, i + 1, by omega, rfl, rfl, rfl⟩
    · refine fi ?_
      intro j
      have : i = n := by omega
      subst this
      rw [fillTo_all]
      have : putB v i = (List.range i).map fun k => (shr64 v (8 * (i - 1 - k))).toUInt8 := by unfold putB; rw [if_pos (by omega)]
      rw [← this]
      (first | exact retU | exact retB)

theorem putB_len {v : UInt64} {n : Nat} : (putB v n).length = if 1 ≤ n ∧ n ≤ 8 then n else 0 := by unfold putB; split <;> simp
theorem bndV_int {q : IntKind} {i : Int} {y e : Nat} (h : 0 ≤ i ∧ i ≤ y) : bndV (some (.int q i)) y e = some i.toNat := by
  simp only [bndV, intOfV]; rw [if_pos h]

/-- bytes.Clone -/
theorem k111 {ro : HP} {v : Value} {xs : List UInt8} {A : Asrt} (hA : ∀ g, A g → seen v xs g) (hl : xs.length ≤ 2 ^ 40) : Fn Tryz.prog ro 111 [v] [A] fun r : Value => (r, [own r xs, A]) := by
  refine c111 _ ?_
  unfold t111
  have see : ∀ {S}, Mem A S → SeeS false ro S v xs := fun m => SeeS.of (At.mem m) hA
  refine W_shape (see mem') fun sh => ?_
  rcases sh with ⟨⟨_ | a, c, rfl⟩, h⟩ | ⟨b, off, cap, rfl, h⟩
  · (repeat' (first | refine st ?_ | (refine iw ?_ ?_ <;> intro h <;> try exact ko) | intro b))
    have : xs = [] := List.length_eq_zero_iff.1 h
    subst this
    exact W_retE _ rfl ent_ownNil
  · (repeat' (first | refine st ?_ | (refine iw ?_ ?_ <;> intro h <;> try exact ko) | intro b))
    refine W_bslS (ys := ([] : List UInt8)) rfl rfl rfl ⟨by omega, rfl⟩ (ent_triv rfl) fun x => ?_
    refine W_appS pk' (see mem') rfl ⟨rfl, by decide, by decide⟩ (by simp; omega) fun y => ?_
    rw [List.nil_append]
    (first | exact retU | exact retB)
  · (repeat' (first | refine st ?_ | (refine iw ?_ ?_ <;> intro h <;> try exact ko) | intro b))
    refine W_bslS (ys := ([] : List UInt8)) rfl rfl rfl ⟨by omega, rfl⟩ (ent_triv rfl) fun x => ?_
    refine W_appS pk' (see mem') rfl ⟨rfl, by decide, by decide⟩ (by simp; omega) fun y => ?_
    rw [List.nil_append]
    (first | exact retU | exact retB)
theorem k111F {ro : HP} {v : Value} {xs : List UInt8} (hl : xs.length ≤ 2 ^ 40) : Fn Tryz.prog ro 111 [v] [frz v xs] fun r : Value => (r, [own r xs, frz v xs]) := k111 (fun _ => frz_seen) hl
theorem k111O {ro : HP} {v : Value} {xs : List UInt8} (hl : xs.length ≤ 2 ^ 40) : Fn Tryz.prog ro 111 [v] [own v xs] fun r : Value => (r, [own r xs, own v xs]) := k111 (fun _ => own_seen) hl
/-- bytes.Equal -/
theorem k118 {ro : HP} {v u : Value} {xs ys : List UInt8} : Fn Tryz.prog ro 118 [v, u] [frz v xs, frz u ys] fun _ : Unit => (.bool (xs == ys), [frz v xs, frz u ys]) := by
  refine c118 _ _ ?_
  unfold t118
  refine W_b2s (xs := xs) sees' ?_
  refine W_b2s (xs := ys) sees' ?_
  refine W_strEq ?_
  (first | exact retU | exact retB)

/-- wire.Bytes -/
@[irreducible] def bytesB (p : Pair) : List UInt8 := putB p.a 8 ++ putB p.b 8
theorem k174 {ro : HP} (p : Pair) : Fn Tryz.prog ro 174 [agg p] [] fun r : Value => (r, [own r (bytesB p)]) := by
  refine c174 _ ?_
  unfold t174
  (repeat' (first | refine st ?_ | (refine iw ?_ ?_ <;> intro h <;> try exact ko) | intro b))
  refine W_draw [blk b [val p.a, val p.b]] sub' fun ro' hle hb => ?_
  obtain ⟨k1, _⟩ := Kn.of_big hb
  (repeat' (first | refine st ?_ | (refine iw ?_ ?_ <;> intro h <;> try exact ko) | intro b))
  refine fn (k240 p.a 8) fun r => ?_
  (repeat' (first | refine st ?_ | (refine iw ?_ ?_ <;> intro h <;> try exact ko) | intro b))
  refine fn (k240 p.b 8) fun r => ?_
  refine nf ?_
  refine W_appS pk' sees' rfl ⟨rfl, by decide, by decide⟩ (by simp [putB_len]) fun y => ?_
  refine fi ?_
  intro j
  refine nf ?_
  have e : bytesB p = putB p.a 8 ++ putB p.b 8 := by rw [bytesB]
  rw [e]
  (first | exact retU | exact retB)

/-- wire.Get -/
theorem take_succ' {α : Type} {l : List α} {i : Nat} (h : i < l.length) : l.take (i + 1) = l.take i ++ [l[i]] := by rw [List.take_succ, List.getElem?_eq_getElem h]; rfl
theorem getB_out {b : List UInt8} (h : b.length < 1 ∨ 8 < b.length) : getB b = (0, false) := by unfold getB; rw [if_neg (by omega)]
theorem getB_in {b : List UInt8} (h : 1 ≤ b.length ∧ b.length ≤ 8) : getB b = (b.foldl gstep 0, true) := by unfold getB; rw [if_pos h]
theorem k258 {ro : HP} (v : Value) (b : List UInt8) : Fn Tryz.prog ro 258 [v] [frz v b] fun _ : Unit => (.tuple ⟨[val (getB b).1, .bool (getB b).2]⟩, [frz v b]) := by
  refine c258 _ ?_
  unfold t258
  (repeat' (first | refine st ?_ | (refine iw ?_ ?_ <;> intro h <;> try exact ko) | intro b))
  · rw [getB_out (by omega)]
    (first | exact retU | exact retB)
  · rw [getB_out (by omega)]
    (first | exact retU | exact retB)
  · rw [getB_in (by omega)]
    refine W_loop (I := fun m vs S' => ∃ i : Nat, i ≤ b.length ∧ m = b.length - i ∧ vs = [val ((b.take i).foldl gstep 0), .int .i64 i] ∧ S' = [frz v b]) b.length (Ent.refl _) ⟨0, by omega, by omega, rfl, rfl⟩ ?_
    rintro m vs j S' ⟨i, hi, rfl, rfl, rfl⟩
    refine nf ?_
    (repeat' (first | refine st ?_ | (refine iw ?_ ?_ <;> intro h <;> try exact ko) | intro b))
    · refine fi ?_
      refine ⟨b.length - (i + 1), by omega, i + 1, by omega, rfl, ?_, rfl⟩
      rw [take_succ' (by omega), List.foldl_append]
      unfold gstep
      rfl
    · refine fi ?_
      intro j
      have : i = b.length := by omega
      subst this
      rw [List.take_length]
      refine nf ?_
      (first | exact retU | exact retB)

/-- wire.Pair -/
@[irreducible] def pairB (ys : List UInt8) : Pair × Bool := if ys.length = 16 then (⟨(getB (ys.take 8)).1, (getB (ys.drop 8)).1⟩, true) else (zPair, false)
theorem k242 {ro : HP} (v : Value) (ys : List UInt8) : Fn Tryz.prog ro 242 [v] [frz v ys] fun _ : Unit => (.tuple ⟨[agg (pairB ys).1, .bool (pairB ys).2]⟩, [frz v ys]) := by
  refine c242 _ ?_
  unfold t242
  (repeat' (first | refine st ?_ | (refine iw ?_ ?_ <;> intro h <;> try exact ko) | intro b))
  · have : pairB ys = (zPair, false) := by unfold pairB; rw [if_neg (by omega)]
    rw [this]
    (first | exact retU | exact retB)
  · have hb : ys.length = 16 := by omega
    refine W_slcF (c := 8) (a := 0) (xs := ys) mem' rfl (fun cap h => by rw [bndV_int (by omega)]; rfl) rfl (by omega) (by omega) fun u => ?_
    refine fn (k258 u (List.drop 0 (List.take 8 ys))) fun _ => ?_
    refine nf ?_
    (repeat' (first | refine st ?_ | (refine iw ?_ ?_ <;> intro h <;> try exact ko) | intro b))
    refine W_slcF (c := ys.length) (a := 8) (xs := ys) mem' rfl (fun cap h => rfl) (by rw [bndV_int (by omega)]; rfl) (by omega) (by omega) fun u' => ?_
    refine fn (k258 u' (List.drop 8 (List.take ys.length ys))) fun _ => ?_
    refine nf ?_
    (repeat' (first | refine st ?_ | (refine iw ?_ ?_ <;> intro h <;> try exact ko) | intro b))
    have : pairB ys = (⟨(getB (ys.take 8)).1, (getB (ys.drop 8)).1⟩, true) := by unfold pairB; rw [if_pos hb]
    rw [this, List.take_length]
    (first | exact retU | exact retB)
end Go.Lb
