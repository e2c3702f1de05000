/- Contracts: oracle. No statement of the seat is proved in this file. -/
import Derived.Test.YtkblnbbpeakgmaaGreatCL
set_option linter.all false
namespace Go.Lb
open Go.Proofs

structure Orc where
  issued : List Issue
  sums : List (List UInt8)
def entsFrom (n : Nat) : List (List UInt8) → List MapEntry
  | [] => []
  | k :: l => { key := str k, val := val (UInt64.ofNat (n + 1)), born := n } :: entsFrom (n + 1) l
theorem entsFrom_snoc (n : Nat) (l : List (List UInt8)) (k : List UInt8) : entsFrom n (l ++ [k]) = entsFrom n l ++ [{ key := str k, val := val (UInt64.ofNat (n + l.length + 1)), born := n + l.length }] := by
  induction l generalizing n with
  | nil => rfl
  | cons x l ih =>
    simp only [List.cons_append, entsFrom, ih, List.length_cons]
    rw [show n + 1 + l.length = n + (l.length + 1) from by omega]
theorem entsFrom_len (n : Nat) (l : List (List UInt8)) : (entsFrom n l).length = l.length := by
  induction l generalizing n with
  | nil => rfl
  | cons x l ih => simp [entsFrom, ih]
theorem str_eq (a b : List UInt8) : keyEq .str (str a) (str b) = some (a == b) := by
  show some ((⟨a⟩ : Array UInt8) == (⟨b⟩ : Array UInt8)) = some (a == b)
  congr 1
  rw [Bool.eq_iff_iff]
  simp
theorem mfind_ents (n i : Nat) (l : List (List UInt8)) (k : List UInt8) : mfind .str (str k) (entsFrom n l) i = some (if k ∈ l then some (i + l.idxOf k, val (UInt64.ofNat (n + l.idxOf k + 1))) else none) := by
  induction l generalizing n i with
  | nil => rfl
  | cons x l ih =>
    simp only [entsFrom, mfind, str_eq]
    by_cases hx : k = x
    · subst hx
      simp
    · have hb : (k == x) = false := by simpa using hx
      have hb' : (x == k) = false := by simpa using fun h => hx h.symm
      rw [hb, ih]
      simp only [List.mem_cons, hx, false_or, List.idxOf_cons, hb', cond_false]
      split
      · congr 3
        · omega
        · congr 2; omega
      · rfl
attribute [local irreducible] WT blk fzb own frz mp exL isA Ent Tri updE drawE At Kn See SeeS
def orcL (o mb : Nat) (x : Orc) (v : Value) : List Asrt := [blk o [v, .map (some mb)], own v x.issued, mp mb (entsFrom 0 x.sums) x.sums.length]
def orcA (o mb : Nat) (x : Orc) : Asrt := exL (orcL o mb x)
theorem ent_orc {o mb : Nat} {x : Orc} (v : Value) (S : List Asrt) : Ent (blk o [v, .map (some mb)] :: own v x.issued :: mp mb (entsFrom 0 x.sums) x.sums.length :: S) (orcA o mb x :: S) := Ent.exL (X := orcL o mb x) v S
def okI (x : Issue) : Prop := x.head.length ≤ 4000 ∧ x.data.length ≤ 4000 ∧ x.out.bytes.length ≤ 4000
def okOr (x : Orc) : Prop := x.issued.length ≤ 2 ^ 30 ∧ x.sums.length ≤ 2 ^ 30 ∧ ∀ i ∈ x.issued, okI i
def issC (x : Issue) (v1 v2 v3 : Value) : List Value := [val x.key.a, val x.key.b, val x.n.ep, val x.n.sl, val x.n.ver, v1, v2, v3, val x.out.tag.a, val x.out.tag.b]

section
variable {P : Program} {hb : Nat → Bool} {d : Bool} {ro : HP} {S : List Asrt} {R : Value → List Asrt → Prop} {Ev : Nat → List Value → List Asrt → Prop}
theorem ent_iss {x : Issue} {v1 v2 v3 : Value} (m1 : Mem (frz v1 x.head) S) (m2 : Mem (frz v2 x.data) S) (m3 : Mem (frz v3 x.out.bytes) S) : Ent S (isA (.agg ⟨issC x v1 v2 v3⟩) x :: S) := by
  obtain ⟨_, p3⟩ := m3.pick
  have m2' : Mem (frz v2 x.data) (frz v3 x.out.bytes :: S) := .tl m2
  obtain ⟨_, p2⟩ := m2'.pick
  have m1' : Mem (frz v1 x.head) (frz v2 x.data :: frz v3 x.out.bytes :: S) := .tl (.tl m1)
  obtain ⟨_, p1⟩ := m1'.pick
  refine (p3.dup (frz_dup _ _)).trans ((p2.dup (frz_dup _ _)).trans ((p1.dup (frz_dup _ _)).trans ?_))
  have h12 : Ent (frz v1 x.head :: frz v2 x.data :: frz v3 x.out.bytes :: S) ((fun g => frz v1 x.head g ∧ frz v2 x.data g) :: frz v3 x.out.bytes :: S) := star_two (fun h _ _ a b => ⟨a, b⟩) (fun l r => frz_mono l r) (fun l r => frz_mono l r)
  refine h12.trans ?_
  refine star_two (fun h _ _ a b => ?_) (fun l r => ⟨frz_mono l r.1, frz_mono l r.2⟩) (fun l r => frz_mono l r)
  with_unfolding_all exact ⟨v1, v2, v3, rfl, a.1, a.2, b⟩
theorem W_ixIss {v : Value} {xs : List Issue} {q : IntKind} {i : Int} {x : Issue} {k : Value → Tr} (m : SeeS d ro S v xs) (h : 0 ≤ i) (hx : xs[i.toNat]? = some x)
    (y : ∀ a1 n1 c1 a2 n2 c2 a3 n3 c3, WT P hb (k (.agg ⟨issC x (.slice a1 n1 c1) (.slice a2 n2 c2) (.slice a3 n3 c3)⟩)) d ro (frz (.slice a1 n1 c1) x.head :: frz (.slice a2 n2 c2) x.data :: frz (.slice a3 n3 c3) x.out.bytes :: S) R Ev) :
    WT P hb (.pu (.iad 10 v (.int q i)) fun z => .rd (.ld true 10 z) k) d ro S R Ev := by
  refine W_ixN m rfl h hx fun c _ => ?_
  refine W_rep (t := fun c => k (.agg ⟨c⟩)) (β := Value × Value × Value) (X := fun b => issC x b.1 b.2.1 b.2.2) (Y := fun b g => frz b.1 x.head g ∧ frz b.2.1 x.data g ∧ frz b.2.2 x.out.bytes g) (fun g a => ?_) ?_
  · obtain ⟨v1, v2, v3, e, f⟩ := reps_one.1 a
    exact ⟨(v1, v2, v3), e, f⟩
  rintro ⟨v1, v2, v3⟩
  refine W_ent ((ent_and (frz_dup _ _)).trans (Ent.cons _ (ent_and (frz_dup _ _)))) ?_
  refine W_slO (v := v1) sees' ?_
  rintro a1 n1 c1 rfl
  refine W_slO (v := v2) sees' ?_
  rintro a2 n2 c2 rfl
  refine W_slO (v := v3) sees' ?_
  rintro a3 n3 c3 rfl
  exact y a1 n1 c1 a2 n2 c2 a3 n3 c3
end

theorem k166 {ro : HP} : Fn Tryz.prog ro 166 [] [] fun b : Nat × Nat => (ptr b.1, [orcA b.1 b.2 ⟨[], []⟩]) := by
  refine c166 ?_
  unfold t166
  refine W_mmk fun mb => ?_
  (repeat' (first | refine st ?_ | (refine iw ?_ ?_ <;> intro h <;> try exact ko) | intro b))
  exact W_retE (b, mb) rfl (((ent_ownNil (α := Issue)).trans (en' (X := orcL b mb ⟨[], []⟩ (.slice none 0 0)))).trans (ent_orc (x := ⟨[], []⟩) _ []))
theorem k244 {ro : HP} (x : Issue) (v1 v2 v3 : Value) (ok : okI x) : Fn Tryz.prog ro 244 [.agg ⟨issC x v1 v2 v3⟩] [frz v1 x.head, frz v2 x.data, frz v3 x.out.bytes]
    fun u : Value × Value × Value => (.agg ⟨issC x u.1 u.2.1 u.2.2⟩, [frz u.1 x.head, frz u.2.1 x.data, frz u.2.2 x.out.bytes]) := by
  refine c244 _ ?_
  unfold t244
  obtain ⟨o1, o2, o3⟩ := ok
  refine W_slO (v := v1) sees' ?_
  rintro a1 n1 c1 rfl
  refine W_slO (v := v2) sees' ?_
  rintro a2 n2 c2 rfl
  refine W_slO (v := v3) sees' ?_
  rintro a3 n3 c3 rfl
  refine st ?_
  intro b0
  refine st ?_
  intro b1
  refine W_draw [blk b0 (issC x (.slice a1 n1 c1) (.slice a2 n2 c2) (.slice a3 n3 c3))] sub' fun ro' hle hb => ?_
  obtain ⟨k1, _⟩ := Kn.of_big hb
  (repeat' (first | refine st ?_ | (refine iw ?_ ?_ <;> intro h <;> try exact ko) | intro b))
  refine fn (k111F (v := .slice a1 n1 c1) (xs := x.head) (by omega)) fun r1 => ?_
  (repeat' (first | refine st ?_ | (refine iw ?_ ?_ <;> intro h <;> try exact ko) | intro b))
  refine fn (k111F (v := .slice a2 n2 c2) (xs := x.data) (by omega)) fun r2 => ?_
  (repeat' (first | refine st ?_ | (refine iw ?_ ?_ <;> intro h <;> try exact ko) | intro b))
  refine fn (k111F (v := .slice a3 n3 c3) (xs := x.out.bytes) (by omega)) fun r3 => ?_
  refine nf ?_
  refine W_frzS (v := r1) pk' ?_
  refine W_frzS (v := r2) pk' ?_
  refine W_frzS (v := r3) pk' ?_
  refine W_slO (v := r1) sees' ?_
  rintro a4 n4 c4 rfl
  refine W_slO (v := r2) sees' ?_
  rintro a5 n5 c5 rfl
  refine W_slO (v := r3) sees' ?_
  rintro a6 n6 c6 rfl
  (repeat' (first | refine st ?_ | (refine iw ?_ ?_ <;> intro h <;> try exact ko) | intro b))
  refine fi ?_
  intro j
  refine nf ?_
  (repeat' (first | refine st ?_ | (refine iw ?_ ?_ <;> intro h <;> try exact ko) | intro b))
  exact W_retE (.slice a4 n4 c4, .slice a5 n5 c5, .slice a6 n6 c6) rfl en'
@[irreducible] def matchI (x : Issue) (key : Pair) (n : Nonce) (head : List UInt8) (s : Sealed) : Bool := x.key = key && (x.n = n && (x.out.tag = s.tag && (x.head == head && x.out.bytes == s.bytes)))
def openO (x : Orc) (key : Pair) (n : Nonce) (head : List UInt8) (s : Sealed) : List UInt8 × Bool := match x.issued.find? (fun i => matchI i key n head s) with
  | some i => (i.data, true)
  | none => ([], false)
theorem find_mid {α : Type} {p : α → Bool} {l1 l2 : List α} {a : α} (h : ∀ x ∈ l1, p x = false) (hp : p a = true) : (l1 ++ a :: l2).find? p = some a := by
  rw [List.find?_append, List.find?_eq_none.2 (fun x hx => by rw [h x hx]; decide)]
  simp [hp]
theorem find_at {α : Type} {p : α → Bool} {l : List α} {i : Nat} (hi : i < l.length) (h : ∀ x ∈ l.take i, p x = false) (hp : p l[i] = true) : l.find? p = some l[i] := by
  have := find_mid (l2 := l.drop (i + 1)) h hp
  rwa [← List.drop_eq_getElem_cons hi, List.take_append_drop] at this
theorem k168 {ro : HP} (o mb : Nat) (x : Orc) (key : Pair) (no : Nonce) (s : Sealed) (v3 v4 : Value) (head : List UInt8) (ok : okOr x) :
    Fn Tryz.prog ro 168 [ptr o, agg key, agg no, v3, .agg ⟨[v4, val s.tag.a, val s.tag.b]⟩] [orcA o mb x, frz v3 head, frz v4 s.bytes]
      fun r : Value => (.tuple ⟨[r, .bool (openO x key no head s).2]⟩, [frz r (openO x key no head s).1, orcA o mb x, frz v3 head, frz v4 s.bytes]) := by
  refine c168 _ _ _ _ _ ?_
  unfold t168
  obtain ⟨ok1, ok2, ok3⟩ := ok
  refine W_slO (v := v4) sees' ?_
  rintro a4 n4 c4 rfl
  refine st ?_
  intro b0
  refine st ?_
  intro b1
  refine st ?_
  intro b2
  refine W_exL (X := orcL o mb x) pk' fun v => ?_
  unfold orcL
  refine nf ?_
  (repeat' (first | refine st ?_ | (refine iw ?_ ?_ <;> intro h <;> try exact ko) | intro b))
  refine W_loopX x.issued.length (fun i _ => ∀ y ∈ x.issued.take i, matchI y key no head s = false) (fun i _ => [.int .i64 i]) (fun i (_ : Unit) => [blk o [v, .map (some mb)], own v x.issued, mp mb (entsFrom 0 x.sums) x.sums.length, frz v3 head, frz (.slice a4 n4 c4) s.bytes, blk b0 (Enc.enc key), blk b1 (Enc.enc no), blk b2 [.slice a4 n4 c4, val s.tag.a, val s.tag.b]]) () (by simp) en' rfl ?_
  rintro i _ j hi hC
  refine nf ?_
  refine st ?_
  refine iw ?_ ?_ <;> intro hlt
  · have hlt : i < x.issued.length := by omega
    have hI := ok3 _ (List.getElem_mem hlt)
    have next : ∀ {S}, matchI x.issued[i] key no head s = false → Ent S _ → _ := fun {S} e h => (⟨(), by omega, by
      rw [take_succ' hlt]
      intro y hy
      rcases List.mem_append.1 hy with hy | hy
      · exact hC y hy
      · rw [List.mem_singleton.1 hy]; exact e, rfl, h⟩ : ∃ b', i < x.issued.length ∧ (∀ y ∈ x.issued.take (i + 1), matchI y key no head s = false) ∧ [Value.int .i64 ((i : Int) + 1)] = [Value.int .i64 ((i + 1 : Nat) : Int)] ∧ Ent S ((fun (_ : Unit) => [blk o [v, .map (some mb)], own v x.issued, mp mb (entsFrom 0 x.sums) x.sums.length, frz v3 head, frz (.slice a4 n4 c4) s.bytes, blk b0 (Enc.enc key), blk b1 (Enc.enc no), blk b2 [.slice a4 n4 c4, val s.tag.a, val s.tag.b]]) b'))
    refine W_ixIss (xs := x.issued) (x := x.issued[i]) sees' (by omega) hx' fun a1 n1 c1 a2 n2 c2 a3 n3 c3 => ?_
    unfold issC
    (repeat' (first | refine st ?_ | (refine iw ?_ ?_ <;> intro h <;> try exact ko) | intro b))
    · rename_i e1 e2
      have e3 := h
      refine fn (k118 (v := .slice a1 n1 c1) (u := v3) (xs := x.issued[i].head) (ys := head)) fun _ => ?_
      refine nf ?_
      refine iw ?_ ?_ <;> intro e4
      · (repeat' (first | refine st ?_ | (refine iw ?_ ?_ <;> intro h <;> try exact ko) | intro b))
        refine fn (k118 (v := .slice a3 n3 c3) (u := .slice a4 n4 c4) (xs := x.issued[i].out.bytes) (ys := s.bytes)) fun _ => ?_
        refine nf ?_
        refine iw ?_ ?_ <;> intro e5
        · (repeat' (first | refine st ?_ | (refine iw ?_ ?_ <;> intro h <;> try exact ko) | intro b))
          refine fn (k111F (v := .slice a2 n2 c2) (xs := x.issued[i].data) (by have := hI.2.1; omega)) fun r => ?_
          refine nf ?_
          refine W_frzS (v := r) pk' ?_
          have em : matchI x.issued[i] key no head s = true := by
            rw [matchI, e4, e5]
            simp only [Bool.and_eq_true, decide_eq_true_eq, beq_self_eq_true, and_true]
            exact ⟨e1, e2, e3⟩
          have eo : openO x key no head s = (x.issued[i].data, true) := by
            unfold openO
            rw [find_at (p := fun y => matchI y key no head s) hlt hC em]
          rw [eo]
          exact W_retE r rfl ((en' (X := orcL o mb x v ++ [frz r x.issued[i].data, frz v3 head, frz (.slice a4 n4 c4) s.bytes])).trans ((ent_orc v _).trans en'))
        · (repeat' (first | refine st ?_ | (refine iw ?_ ?_ <;> intro h <;> try exact ko) | intro b))
          refine fi ?_
          exact next (by rw [matchI]; simp [e5]) en'
      · (repeat' (first | refine st ?_ | (refine iw ?_ ?_ <;> intro h <;> try exact ko) | intro b))
        refine fi ?_
        exact next (by rw [matchI]; simp [e4]) en'
    · refine fi ?_
      exact next (by rw [matchI]; have : ¬ x.issued[i].out.tag = s.tag := h; simp [this]) en'
    · refine fi ?_
      exact next (by rw [matchI]; have : ¬ x.issued[i].n = no := h; simp [this]) en'
    · refine fi ?_
      exact next (by rw [matchI]; have : ¬ x.issued[i].key = key := h; simp [this]) en'
  · have : i = x.issued.length := by omega
    subst this
    rw [List.take_length] at hC
    have eo : openO x key no head s = ([], false) := by
      unfold openO
      rw [List.find?_eq_none.2 fun y hy => by rw [hC y hy]; decide]
    refine fi ?_
    intro j
    refine nf ?_
    rw [eo]
    exact W_retE _ rfl (ent_frzNil.trans ((en' (X := orcL o mb x v ++ [frz (.slice none 0 0) ([] : List UInt8), frz v3 head, frz (.slice a4 n4 c4) s.bytes])).trans ((ent_orc v _).trans en')))
end Go.Lb
