/- Contracts: speck, keys. No statement of the seat is proved in this file. -/
import Derived.Test.YtkblnbbpeakgmaaGreatCD
set_option linter.all false
namespace Go.Lb
open Go.Proofs
attribute [local irreducible] WT blk fzb own frz mp exL isA Ent Tri updE drawE At Kn See SeeS

/-! ### speck -/
@[irreducible] def rotR8 (x : UInt64) : UInt64 := shl64 x 56 ||| shr64 x 8
@[irreducible] def rotL3 (x : UInt64) : UInt64 := shl64 x 3 ||| shr64 x 61
@[irreducible] def mixS (x y k : UInt64) : UInt64 × UInt64 := ((rotR8 x + y) ^^^ k, rotL3 y ^^^ ((rotR8 x + y) ^^^ k))
theorem k340a {ro : HP} (x : UInt64) : Fn Tryz.prog ro 340 [val x, .int .i64 (-8)] [] fun _ : Unit => (val (rotR8 x), []) := by
  refine c340 _ _ ?_
  unfold t340
  refine W_pu (v := .int .u64 18446744073709551608) (by rfl) ?_
  refine W_pu (v := .int .u64 56) (by rfl) ?_
  refine W_u64shl (by omega) ?_
  refine W_pu (v := .int .u64 8) (by rfl) ?_
  refine W_u64shr (by omega) ?_
  refine W_u64or ?_
  have e : rotR8 x = shl64 x 56 ||| shr64 x 8 := by rw [rotR8]
  rw [e]
  (first | exact retU | exact retB)
theorem k340b {ro : HP} (x : UInt64) : Fn Tryz.prog ro 340 [val x, .int .i64 3] [] fun _ : Unit => (val (rotL3 x), []) := by
  refine c340 _ _ ?_
  unfold t340
  refine W_pu (v := .int .u64 3) (by rfl) ?_
  refine W_pu (v := .int .u64 3) (by rfl) ?_
  refine W_u64shl (by omega) ?_
  refine W_pu (v := .int .u64 61) (by rfl) ?_
  refine W_u64shr (by omega) ?_
  refine W_u64or ?_
  have e : rotL3 x = shl64 x 3 ||| shr64 x 61 := by rw [rotL3]
  rw [e]
  (first | exact retU | exact retB)
theorem k325 {ro : HP} (x y k : UInt64) : Fn Tryz.prog ro 325 [val x, val y, val k] [] fun _ : Unit => (.tuple ⟨[val (mixS x y k).1, val (mixS x y k).2]⟩, []) := by
  refine c325 _ _ _ ?_
  unfold t325
  refine fn (k340a x) fun _ => ?_
  refine nf ?_
  (repeat' (first | refine st ?_ | (refine iw ?_ ?_ <;> intro h <;> try exact ko) | intro b))
  refine fn (k340b y) fun _ => ?_
  refine nf ?_
  (repeat' (first | refine st ?_ | (refine iw ?_ ?_ <;> intro h <;> try exact ko) | intro b))
  have e : mixS x y k = ((rotR8 x + y) ^^^ k, rotL3 y ^^^ ((rotR8 x + y) ^^^ k)) := by rw [mixS]
  rw [e]
  (first | exact retU | exact retB)
def speckSt (key : Pair) : Nat → UInt64 × UInt64 × List UInt64
  | 0 => (key.a, key.b, [])
  | i + 1 => ((mixS (speckSt key i).1 (speckSt key i).2.1 (UInt64.ofNat i)).1, (mixS (speckSt key i).1 (speckSt key i).2.1 (UInt64.ofNat i)).2, (speckSt key i).2.2 ++ [(speckSt key i).2.1])
theorem speckSt_len (key : Pair) (i : Nat) : (speckSt key i).2.2.length = i := by
  induction i with
  | zero => rfl
  | succ i ih => simp [speckSt, ih]
@[irreducible] def speckK (key : Pair) : List UInt64 := (speckSt key 32).2.2
theorem ofNat_small {i : Nat} (h : i < 18446744073709551616) : (UInt64.ofNat i).toNat = i := by simp; omega
theorem k324 {ro : HP} (key : Pair) : Fn Tryz.prog ro 324 [agg key] [] fun r : Value => (r, [own r (speckK key)]) := by
  refine c324 _ ?_
  unfold t324
  (repeat' (first | refine st ?_ | (refine iw ?_ ?_ <;> intro h <;> try exact ko) | intro b))
  refine W_draw [blk b [val key.a, val key.b]] sub' fun ro' hle hb => ?_
  obtain ⟨k1, _⟩ := Kn.of_big hb
  (repeat' (first | refine st ?_ | (refine iw ?_ ?_ <;> intro h <;> try exact ko) | intro b))
  refine fi ?_
  intro j
  refine nf ?_
  refine W_loop (I := fun m vs S' => ∃ i : Nat, i ≤ 32 ∧ m = 32 - i ∧ ∃ r, vs = [val (speckSt key i).1, val (speckSt key i).2.1, r, val (UInt64.ofNat i)] ∧ S' = [own r (speckSt key i).2.2]) 32 (S0 := [own (.slice none 0 0) ([] : List UInt64)]) ?_ ⟨0, by omega, by omega, _, rfl, rfl⟩ ?_
  · exact (Ent.nil _).trans ent_ownNil
  rintro m vs j S' ⟨i, hi, rfl, r, rfl, rfl⟩
  refine nf ?_
  have hn := ofNat_small (i := i) (by omega)
  (repeat' (first | refine st ?_ | (refine iw ?_ ?_ <;> intro h <;> try exact ko) | intro b))
  · have hlt : i < 32 := by rw [hn] at h; omega
    refine W_app1 pk' ent_val rfl ⟨rfl, by decide, by decide⟩ (by rw [speckSt_len]; omega) fun y => ?_
    refine fn (k325 (speckSt key i).1 (speckSt key i).2.1 (UInt64.ofNat i)) fun _ => ?_
    refine nf ?_
    (repeat' (first | refine st ?_ | (refine iw ?_ ?_ <;> intro h <;> try exact ko) | intro b))
    refine fi ?_
    refine ⟨32 - (i + 1), by omega, i + 1, by omega, rfl, y, ?_, rfl⟩
    have : UInt64.ofNat i + 1 = UInt64.ofNat (i + 1) := by rw [UInt64.ofNat_add]; rfl
    rw [this]
    rfl
  · have hlt : i = 32 := by rw [hn] at h; omega
    subst hlt
    refine fi ?_
    intro j
    refine nf ?_
    have e : speckK key = (speckSt key 32).2.2 := by rw [speckK]
    rw [e]
    (first | exact retU | exact retB)
@[irreducible] def encSt (ks : List UInt64) (x : UInt64 × UInt64) : UInt64 × UInt64 := ks.foldl (fun x k => mixS x.1 x.2 k) x
@[irreducible] def speckE (key block : Pair) : Pair := ⟨(encSt (speckK key) (block.a, block.b)).1, (encSt (speckK key) (block.a, block.b)).2⟩
theorem k294 {ro : HP} (key block : Pair) : Fn Tryz.prog ro 294 [agg key, agg block] [] fun _ : Unit => (agg (speckE key block), []) := by
  refine c294 _ _ ?_
  unfold t294
  apply W_bxAgg
  intro b0
  apply W_bxAgg
  intro b1
  apply W_nw
  intro b2
  refine W_draw [blk b1 (Enc.enc block)] sub' fun ro' hle hb => ?_
  obtain ⟨k1, _⟩ := Kn.of_big hb
  (repeat' (first | refine st ?_ | (refine iw ?_ ?_ <;> intro h <;> try exact ko) | intro b))
  refine fi ?_
  intro j
  refine nf ?_
  (repeat' (first | refine st ?_ | (refine iw ?_ ?_ <;> intro h <;> try exact ko) | intro b))
  refine fn (k324 key) fun r => ?_
  refine nf ?_
  (repeat' (first | refine st ?_ | (refine iw ?_ ?_ <;> intro h <;> try exact ko) | intro b))
  have hl : (speckK key).length = 32 := by rw [speckK]; exact speckSt_len key 32
  refine W_loop (I := fun m vs S' => ∃ i : Nat, i ≤ (speckK key).length ∧ m = (speckK key).length - i ∧ vs = [val (encSt ((speckK key).take i) (block.a, block.b)).1, val (encSt ((speckK key).take i) (block.a, block.b)).2, .int .i64 i] ∧ S' = [own r (speckK key), blk b2 [.int .u64 0, .int .u64 0]]) (speckK key).length (Sub.ent' sub') ⟨0, by omega, by omega, by rw [encSt]; rfl, rfl⟩ ?_
  rintro m vs j S' ⟨i, hi, rfl, rfl, rfl⟩
  refine nf ?_
  (repeat' (first | refine st ?_ | (refine iw ?_ ?_ <;> intro h <;> try exact ko) | intro b))
  · refine fn (k325 _ _ (speckK key)[i]) fun _ => ?_
    refine nf ?_
    (repeat' (first | refine st ?_ | (refine iw ?_ ?_ <;> intro h <;> try exact ko) | intro b))
    refine fi ?_
    refine ⟨(speckK key).length - (i + 1), by omega, i + 1, by omega, rfl, ?_, rfl⟩
    rw [take_succ' (by omega), encSt, encSt, List.foldl_append]
    rfl
  · refine fi ?_
    intro j
    have : i = (speckK key).length := by omega
    subst this
    rw [List.take_length]
    refine nf ?_
    (repeat' (first | refine st ?_ | (refine iw ?_ ?_ <;> intro h <;> try exact ko) | intro b))
    have e : speckE key block = ⟨(encSt (speckK key) (block.a, block.b)).1, (encSt (speckK key) (block.a, block.b)).2⟩ := by rw [speckE]
    rw [e]
    (first | exact retU | exact retB)

/-! ### keys -/
structure Ks where
  seed : UInt64
  epochs : List UInt32
def keysA (k p : Nat) (x : Ks) : Asrt := exL fun v : Value => [blk k [ptr p, val x.seed, v], own v x.epochs]
@[irreducible] def keyOf (seed : UInt64) (epoch : UInt32) : Pair := speckE ⟨seed, seed⟩ ⟨0, epoch.toUInt64⟩
theorem k231 {ro : HP} (seed : UInt64) (epoch : UInt32) : Fn Tryz.prog ro 231 [val seed, val epoch] [] fun _ : Unit => (agg (keyOf seed epoch), []) := by
  refine c231 _ _ ?_
  unfold t231
  (repeat' (first | refine st ?_ | (refine iw ?_ ?_ <;> intro h <;> try exact ko) | intro b))
  refine fn (k294 ⟨seed, seed⟩ ⟨0, epoch.toUInt64⟩) fun _ => ?_
  refine nf ?_
  (repeat' (first | refine st ?_ | (refine iw ?_ ?_ <;> intro h <;> try exact ko) | intro b))
  have e : keyOf seed epoch = speckE ⟨seed, seed⟩ ⟨0, epoch.toUInt64⟩ := by rw [keyOf]
  rw [e]
  (first | exact retU | exact retB)
theorem k131 {ro : HP} {v : Value} {xs : List UInt32} (hl : xs.length ≤ 2 ^ 40) : Fn Tryz.prog ro 131 [v] [own v xs] fun r : Value => (r, [own r xs, own v xs]) := by
  refine c131 _ ?_
  unfold t131
  refine W_shape (xs := xs) sees' fun sh => ?_
  rcases sh with ⟨⟨_ | a, c, rfl⟩, h⟩ | ⟨b, off, cap, rfl, h⟩
  · (repeat' (first | refine st ?_ | (refine iw ?_ ?_ <;> intro h <;> try exact ko) | intro b))
    have : xs = [] := List.length_eq_zero_iff.1 h
    subst this
    exact W_retE _ rfl ent_ownNil
  · (repeat' (first | refine st ?_ | (refine iw ?_ ?_ <;> intro h <;> try exact ko) | intro b))
    refine W_bslS (ys := ([] : List UInt32)) rfl rfl rfl ⟨by omega, rfl⟩ (ent_triv rfl) fun x => ?_
    refine W_appS (v := x) pk' sees' rfl ⟨rfl, by decide, by decide⟩ (by simp; omega) fun y => ?_
    rw [List.nil_append]
    (first | exact retU | exact retB)
  · (repeat' (first | refine st ?_ | (refine iw ?_ ?_ <;> intro h <;> try exact ko) | intro b))
    refine W_bslS (ys := ([] : List UInt32)) rfl rfl rfl ⟨by omega, rfl⟩ (ent_triv rfl) fun x => ?_
    refine W_appS (v := x) pk' sees' rfl ⟨rfl, by decide, by decide⟩ (by simp; omega) fun y => ?_
    rw [List.nil_append]
    (first | exact retU | exact retB)
/-- the first place of a thing; -1: it is not there -/
def idxF {α : Type} [DecidableEq α] (xs : List α) (e : α) : Int := if e ∈ xs then (xs.idxOf e : Nat) else -1
theorem idxOf_at {α : Type} [DecidableEq α] {e : α} : ∀ {xs : List α} {i : Nat}, xs[i]? = some e → e ∉ xs.take i → xs.idxOf e = i
  | [], i, h, _ => by simp at h
  | x :: xs, 0, h, _ => by simp at h; simp [h]
  | x :: xs, i + 1, h, hn => by
    simp at h hn
    have := idxOf_at (xs := xs) (i := i) h hn.2
    rw [List.idxOf_cons]
    have hne : (x == e) = false := by simp; exact fun h => hn.1 h.symm
    rw [hne]
    simp [this]
theorem idxF_at {α : Type} [DecidableEq α] {e : α} {xs : List α} {i : Nat} (h : xs[i]? = some e) (hn : e ∉ xs.take i) : idxF xs e = i := by
  unfold idxF
  rw [if_pos (List.mem_of_getElem? h), idxOf_at h hn]
theorem idxF_none {α : Type} [DecidableEq α] {e : α} {xs : List α} (hn : e ∉ xs) : idxF xs e = -1 := by unfold idxF; rw [if_neg hn]
theorem idxF_nonneg {α : Type} [DecidableEq α] {e : α} {xs : List α} : 0 ≤ idxF xs e ↔ e ∈ xs := by
  unfold idxF
  split <;> simp_all
theorem u32_inj {a b : UInt32} : (a.toNat : Int) = (b.toNat : Int) ↔ a = b :=
  ⟨fun h => UInt32.toNat_inj.1 (by omega), fun h => by rw [h]⟩
theorem k293 {ro : HP} (v : Value) (xs : List UInt32) (e : UInt32) (hl : xs.length ≤ 2 ^ 40) : Fn Tryz.prog ro 293 [v, val e] [own v xs] fun _ : Unit => (.int .i64 (idxF xs e), [own v xs]) := by
  refine c293 _ _ ?_
  unfold t293
  (repeat' (first | refine st ?_ | (refine iw ?_ ?_ <;> intro h <;> try exact ko) | intro b))
  refine W_loop (I := fun m vs S' => ∃ i : Nat, i ≤ xs.length ∧ m = xs.length - i ∧ (e ∉ xs.take i) ∧ vs = [.int .i64 i] ∧ S' = [own v xs]) xs.length (Ent.refl _) ⟨0, by omega, by omega, by simp, rfl, rfl⟩ ?_
  rintro m vs j S' ⟨i, hi, rfl, hne, rfl, rfl⟩
  refine nf ?_
  (repeat' (first | refine st ?_ | (refine iw ?_ ?_ <;> intro h <;> try exact ko) | intro b))
  · have he := u32_inj.1 h
    rw [idxF_at (i := i) (by rw [he]; simp) hne]
    (first | exact retU | exact retB)
  · have he : ¬ e = xs[i] := fun h' => h (u32_inj.2 h')
    refine fi ?_
    exact ⟨xs.length - (i + 1), by omega, i + 1, by omega, rfl, by rw [take_succ' (by omega), List.mem_append, List.mem_singleton]; exact fun h => h.elim hne he, rfl, rfl⟩
  · have : i = xs.length := by omega
    subst this
    rw [List.take_length] at hne
    rw [idxF_none hne]
    refine fi ?_
    intro j
    refine nf ?_
    (first | exact retU | exact retB)
theorem k230 {ro : HP} (v : Value) (xs : List UInt32) (e : UInt32) (hl : xs.length ≤ 2 ^ 40) : Fn Tryz.prog ro 230 [v, val e] [own v xs] fun _ : Unit => (.bool (decide (e ∈ xs)), [own v xs]) := by
  refine c230 _ _ ?_
  unfold t230
  refine fn (k293 v xs e hl) fun _ => ?_
  refine nf ?_
  (repeat' (first | refine st ?_ | (refine iw ?_ ?_ <;> intro h <;> try exact ko) | intro b))
  exact W_retF () (by congr 1; rw [Bool.eq_iff_iff]; simp [idxF_nonneg]) sub'
theorem ent_keys {k p : Nat} {x : Ks} (v : Value) (S : List Asrt) : Ent (blk k [ptr p, val x.seed, v] :: own v x.epochs :: S) (keysA k p x :: S) := Ent.exL (X := fun v : Value => [blk k [ptr p, val x.seed, v], own v x.epochs]) v S
theorem k58 {ro : HP} (k p : Nat) (x : Ks) (hl : x.epochs.length ≤ 2 ^ 40) : Fn Tryz.prog ro 58 [ptr k] [keysA k p x] fun r : Value => (r, [own r x.epochs, keysA k p x]) := by
  refine c58 _ ?_
  unfold t58
  refine W_exL pk' fun v => ?_
  refine nf ?_
  (repeat' (first | refine st ?_ | (refine iw ?_ ?_ <;> intro h <;> try exact ko) | intro b))
  refine fn (k131 hl) fun r => ?_
  refine nf ?_
  exact W_retE _ rfl (Ent.cons _ ((Ent.swap _ _ _).trans (ent_keys v [])))
def keyP (x : Ks) (e : UInt32) : Pair × Bool := if e ∈ x.epochs then (keyOf x.seed e, true) else (zPair, false)
theorem k155 {ro : HP} (k p : Nat) (x : Ks) (e : UInt32) (hl : x.epochs.length ≤ 2 ^ 40) : Fn Tryz.prog ro 155 [ptr k, val e] [keysA k p x] fun _ : Unit => (.tuple ⟨[agg (keyP x e).1, .bool (keyP x e).2]⟩, [keysA k p x]) := by
  refine c155 _ _ ?_
  unfold t155
  (repeat' (first | refine st ?_ | (refine iw ?_ ?_ <;> intro h <;> try exact ko) | intro b))
  refine fn (k58 k p x hl) fun r => ?_
  refine nf ?_
  refine fn (k230 r x.epochs e hl) fun _ => ?_
  refine nf ?_
  (repeat' (first | refine st ?_ | (refine iw ?_ ?_ <;> intro h <;> try exact ko) | intro b))
  · have e : keyP x e = (zPair, false) := by unfold keyP; rw [if_neg h]
    rw [e]
    (first | exact retU | exact retB)
  · refine W_exL (X := fun v : Value => [blk k [ptr p, val x.seed, v], own v x.epochs]) pk' fun v => ?_
    refine nf ?_
    (repeat' (first | refine st ?_ | (refine iw ?_ ?_ <;> intro h <;> try exact ko) | intro b))
    refine fn (k231 x.seed e) fun _ => ?_
    refine nf ?_
    (repeat' (first | refine st ?_ | (refine iw ?_ ?_ <;> intro h <;> try exact ko) | intro b))
    have e : keyP x e = (keyOf x.seed e, true) := by unfold keyP; rw [if_pos h]
    rw [e]
    refine W_sub (X := [blk k [ptr p, val x.seed, v], own v x.epochs]) sub' ?_
    exact W_retE () rfl ((ent_keys v _).trans (Ent.takeL [_] _))
def lastE (l : List UInt32) : UInt32 := l.getLast?.getD 0
theorem k54 {ro : HP} (k p : Nat) (x : Ks) (hl : x.epochs.length ≤ 2 ^ 40) (h0 : x.epochs ≠ []) : Fn Tryz.prog ro 54 [ptr k] [keysA k p x] fun _ : Unit => (val (lastE x.epochs), [keysA k p x]) := by
  refine c54 _ ?_
  unfold t54
  (repeat' (first | refine st ?_ | (refine iw ?_ ?_ <;> intro h <;> try exact ko) | intro b))
  refine W_exL (X := fun v : Value => [blk k [ptr p, val x.seed, v], own v x.epochs]) pk' fun v => ?_
  refine nf ?_
  refine W_draw [blk k [ptr p, val x.seed, v], own v x.epochs] sub' fun ro' hle hb => ?_
  obtain ⟨k1, hb⟩ := Kn.of_big hb
  obtain ⟨k2, _⟩ := Kn.of_big hb
  have hp : 0 < x.epochs.length := List.length_pos_iff.2 h0
  (repeat' (first | refine st ?_ | (refine iw ?_ ?_ <;> intro h <;> try exact ko) | intro b))
  have e : lastE x.epochs = x.epochs[((x.epochs.length : Int) - 1).toNat]'(by omega) := by
    rw [lastE, List.getLast?_eq_getElem?, List.getElem?_eq_getElem (by omega)]
    simp only [Option.getD_some]
    congr 1
    omega
  rw [e]
  refine fi ?_
  intro j
  refine nf ?_
  refine W_sub (X := [blk k [ptr p, val x.seed, v], own v x.epochs]) sub' ?_
  exact W_retE () rfl ((ent_keys v _).trans (Ent.takeL [_] _))
theorem k99 {ro : HP} (seed : UInt64) (p : Nat) : Fn Tryz.prog ro 99 [val seed, ptr p] [] fun k : Nat => (ptr k, [keysA k p ⟨seed, [1]⟩]) := by
  refine c99 _ _ ?_
  unfold t99
  refine W_bslS (ys := [(1 : UInt32)]) (l := [.int .u32 1]) rfl rfl rfl ⟨by omega, rfl⟩ (ent_triv ?_) fun v => ?_
  · exact reps_sc.2 rfl
  (refine W_slO (v := v) sees' ?_; rintro a n c rfl)
  (repeat' (first | refine st ?_ | (refine iw ?_ ?_ <;> intro h <;> try exact ko) | intro b))
  refine W_sub (X := [blk b [ptr p, val seed, .slice a n c], own (.slice a n c) [(1 : UInt32)]]) sub' ?_
  exact W_retE b rfl ((ent_keys (x := ⟨seed, [1]⟩) _ _).trans (Ent.takeL [_] _))

/-! ### nonce -/
structure Mkr where
  boot : UInt64
  n : Int
def mkA (m : Nat) (x : Mkr) : Asrt := blk m [val x.boot, .int .i64 x.n]
theorem k29 {ro : HP} (boot : UInt64) (h : boot.toNat ≤ 4294967295) : Fn Tryz.prog ro 29 [val boot] [] fun m : Nat => (.tuple ⟨[ptr m, .int .i64 0]⟩, [mkA m ⟨boot, 0⟩]) := by
  refine c29 _ ?_
  unfold t29
  refine W_pu rfl ?_
  refine W_iteP (fun h' => by omega) fun _ => ?_
  (repeat' (first | refine st ?_ | (refine iw ?_ ?_ <;> intro h <;> try exact ko) | intro b))
  (first | exact retU | exact retB)
theorem k253 {ro : HP} (x : Nonce) : Fn Tryz.prog ro 253 [agg x] [] fun _ : Unit => (val (shr64 x.ver 32), []) := by
  refine c253 _ ?_
  unfold t253
  (repeat' (first | refine st ?_ | (refine iw ?_ ?_ <;> intro h <;> try exact ko) | intro b))
  (first | exact retU | exact retB)
theorem k197 {ro : HP} (m : Nat) (x : Mkr) (h : 0 ≤ x.n ∧ x.n ≤ 100) : Fn Tryz.prog ro 197 [ptr m] [mkA m x] fun _ : Unit => (.int .i64 (100 - x.n), [mkA m x]) := by
  refine c197 _ ?_
  unfold t197
  (repeat' (first | refine st ?_ | (refine iw ?_ ?_ <;> intro h <;> try exact ko) | intro b))
  (first | exact retU | exact retB)
end Go.Lb
