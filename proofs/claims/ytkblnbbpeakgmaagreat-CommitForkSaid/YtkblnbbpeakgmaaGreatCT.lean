/- Contracts: area. No statement of the seat is proved in this file. -/
import Derived.Test.YtkblnbbpeakgmaaGreatCS
set_option linter.all false
namespace Go.Lb
open Go.Proofs
attribute [local irreducible] WT blk fzb own frz mp exL isA Ent Tri updE drawE At Kn See SeeS

theorem writeS_fit {slots : Int} {x : Sd} {n : Nat} (h : fitS slots x n) (w : Pw) (off : Int) (bs : List UInt8) : fitS slots (writeS w x off bs).2.2 (n + 1) := by
  obtain ⟨h1, h2, h3, h4⟩ := h
  unfold writeS
  split
  · rename_i hi
    split
    · refine ⟨h1, by simp; omega, by simp; omega, ?_⟩
      intro o ho
      rcases List.mem_append.1 ho with ho | ho
      · exact h4 o ho
      · rw [List.mem_singleton.1 ho]
        unfold inS at hi
        unfold okO
        exact ⟨hi.1, by show off + bs.length ≤ x.lasts.length; omega⟩
    · exact ⟨h1, by show x.waits.length ≤ _; omega, by show x.trace.length ≤ _; omega, h4⟩
  · exact ⟨h1, by show x.waits.length ≤ _; omega, by show x.trace.length ≤ _; omega, h4⟩
theorem settleA_fit {slots : Int} {x : Sd} {n : Nat} (h : fitS slots x n) : fitS slots (settleA x) n := by
  obtain ⟨h1, h2, h3, h4⟩ := h
  refine ⟨?_, by simp [settleA], h3, by simp [settleA]⟩
  show ((layOps x.lasts x.waits).length : Int) = _
  rw [layOps_len _ _ h4, h1]
theorem barS_fit {slots : Int} {x : Sd} {n : Nat} (h : fitS slots x n) (w : Pw) : fitS slots (barS w x).2.2 (n + 1) := by
  unfold barS
  split
  · obtain ⟨h1, h2, h3, h4⟩ := settleA_fit h
    exact ⟨h1, by show (settleA x).waits.length ≤ _; omega, by have := h.2.2.1; simp; omega, h4⟩
  · exact h.mono (by omega)

/-! ### area -/
def okLs (ls : List Leaf) : Bool := (List.range ls.length).all fun k => isLeaf (ls[k]?.getD zLeaf) (k : Int)
theorem okLs_get {ls : List Leaf} (h : okLs ls = true) {k : Nat} (hk : k < ls.length) : isLeaf ls[k] k = true := by
  unfold okLs at h
  rw [List.all_eq_true] at h
  have := h k (List.mem_range.2 hk)
  rwa [List.getElem?_eq_getElem hk] at this
theorem okLs_no {ls : List Leaf} {k : Nat} (hk : k < ls.length) (h : isLeaf ls[k] k = false) : okLs ls = false := by
  cases e : okLs ls with
  | false => rfl
  | true => rw [okLs_get e hk] at h; cases h
theorem okLs_yes {ls : List Leaf} (h : ∀ k (hk : k < ls.length), isLeaf ls[k] k = true) : okLs ls = true := by
  unfold okLs
  rw [List.all_eq_true]
  intro k hk
  have hk := List.mem_range.1 hk
  rw [List.getElem?_eq_getElem hk]
  exact h k hk
def rowsOf (ls : List Leaf) : List (List UInt8) := ls.map leafBytes
def sumsOf (nodes : List Pair) : List UInt8 := (nodes.map bytesB).flatten
def areaWrite (W : Wd) (a : Int) (ls : List Leaf) : Pair × Int × Wd :=
  if (0 ≤ a ∧ a < 2) ∧ (ls.length : Int) = W.slots ∧ okLs ls = true then
    if (writeS W.pw W.sd (gLeaf W.slots a 0) (rowsOf ls).flatten).1 = true then
      if (writeS (writeS W.pw W.sd (gLeaf W.slots a 0) (rowsOf ls).flatten).2.1 (writeS W.pw W.sd (gLeaf W.slots a 0) (rowsOf ls).flatten).2.2 (gNode W.slots a 0) (sumsOf (buildT W.lk (rowsOf ls)).1)).1 = true then
        ((buildT W.lk (rowsOf ls)).1[1]?.getD zPair, 0, { W with lk := (buildT W.lk (rowsOf ls)).2, pw := (writeS (writeS W.pw W.sd (gLeaf W.slots a 0) (rowsOf ls).flatten).2.1 (writeS W.pw W.sd (gLeaf W.slots a 0) (rowsOf ls).flatten).2.2 (gNode W.slots a 0) (sumsOf (buildT W.lk (rowsOf ls)).1)).2.1, sd := (writeS (writeS W.pw W.sd (gLeaf W.slots a 0) (rowsOf ls).flatten).2.1 (writeS W.pw W.sd (gLeaf W.slots a 0) (rowsOf ls).flatten).2.2 (gNode W.slots a 0) (sumsOf (buildT W.lk (rowsOf ls)).1)).2.2 })
      else (zPair, 7, { W with lk := (buildT W.lk (rowsOf ls)).2, pw := (writeS (writeS W.pw W.sd (gLeaf W.slots a 0) (rowsOf ls).flatten).2.1 (writeS W.pw W.sd (gLeaf W.slots a 0) (rowsOf ls).flatten).2.2 (gNode W.slots a 0) (sumsOf (buildT W.lk (rowsOf ls)).1)).2.1, sd := (writeS (writeS W.pw W.sd (gLeaf W.slots a 0) (rowsOf ls).flatten).2.1 (writeS W.pw W.sd (gLeaf W.slots a 0) (rowsOf ls).flatten).2.2 (gNode W.slots a 0) (sumsOf (buildT W.lk (rowsOf ls)).1)).2.2 })
    else (zPair, 7, { W with lk := (buildT W.lk (rowsOf ls)).2, pw := (writeS W.pw W.sd (gLeaf W.slots a 0) (rowsOf ls).flatten).2.1, sd := (writeS W.pw W.sd (gLeaf W.slots a 0) (rowsOf ls).flatten).2.2 })
  else (zPair, 1, W)
theorem rowsOf_len (ls : List Leaf) : (rowsOf ls).length = ls.length := by simp [rowsOf]
theorem areaWrite_fit {W : Wd} {n : Nat} (h : fitW W n) (a : Int) (ls : List Leaf) : fitW (areaWrite W a ls).2.2 (n + 40) := by
  have hs := h.sl
  unfold areaWrite
  split
  · rename_i hc
    have hl : ls.length ≤ 16 := by have := hc.2.1; omega
    have hb : fitL (buildT W.lk (rowsOf ls)).2 (n + 40) := (buildT_fit h.lk (rowsOf ls)).mono (by rw [rowsOf_len]; omega)
    have hw1 := writeS_fit h.sd W.pw (gLeaf W.slots a 0) (rowsOf ls).flatten
    have hw2 := writeS_fit hw1 (writeS W.pw W.sd (gLeaf W.slots a 0) (rowsOf ls).flatten).2.1 (gNode W.slots a 0) (sumsOf (buildT W.lk (rowsOf ls)).1)
    have hd := h.dk.mono (show n ≤ n + 40 by omega)
    have hk : W.ks.epochs.length ≤ n + 40 ∧ W.ks.epochs ≠ [] := ⟨by have := h.ks.1; omega, h.ks.2⟩
    split
    · split
      · exact ⟨hs, hw2.mono (by omega), hd, hk, hb⟩
      · exact ⟨hs, hw2.mono (by omega), hd, hk, hb⟩
    · exact ⟨hs, hw1.mono (by omega), hd, hk, hb⟩
  · exact h.mono (by omega)
theorem k171 {ro : HP} (w : Nat) (a : Int) : Fn Tryz.prog ro 171 [ptr w, .int .i64 a] [] fun _ : Unit => (.bool (decide (0 ≤ a ∧ a < 2)), []) := by
  refine c171 _ _ ?_
  unfold t171
  (repeat' (first | refine st ?_ | (refine iw ?_ ?_ <;> intro h <;> try exact ko) | intro b))
  · exact W_retF () (by congr 1; rw [Bool.eq_iff_iff]; simp only [decide_eq_true_eq]; omega) sub'
  · exact W_retF () (by congr 1; rw [Bool.eq_iff_iff]; simp only [decide_eq_true_eq, Bool.false_eq_true, false_iff]; omega) sub'
theorem flat_rows {ls : List Leaf} : (rowsOf ls).flatten.length = 32 * ls.length := by
  induction ls with
  | nil => rfl
  | cons l ls ih =>
    simp only [rowsOf, List.map_cons, List.flatten_cons, List.length_append, leafBytes_len, List.length_cons]
    simp only [rowsOf] at ih
    omega
theorem sums_len {l : List Pair} : (sumsOf l).length = 16 * l.length := by
  induction l with
  | nil => rfl
  | cons p l ih =>
    simp only [sumsOf, List.map_cons, List.flatten_cons, List.length_append, bytesB_len, List.length_cons]
    simp only [sumsOf] at ih
    omega
theorem sums_snoc {l : List Pair} {p : Pair} : sumsOf (l ++ [p]) = sumsOf l ++ bytesB p := by simp [sumsOf]
theorem k100 {ro : HP} {A : Asrt} (w : Nat) (ad : Ad) (W : Wd) (n : Nat) (a : Int) (v : Value) (ls : List Leaf) (fit : fitW W n) (hn : n ≤ 2 ^ 28) (hA : ∀ g, A g → seen v ls g) :
    Fn Tryz.prog ro 100 [ptr w, .int .i64 a, v] (A :: wldL w ad W) fun _ : Unit => (.tuple ⟨[agg (areaWrite W a ls).1, .int .i64 (areaWrite W a ls).2.1]⟩, A :: wldL w ad (areaWrite W a ls).2.2) := by
  refine c100 _ _ _ ?_
  unfold t100
  have see : ∀ {S}, Mem A S → SeeS false ro S v ls := fun m => SeeS.of (At.mem m) hA
  refine st ?_
  intro b0
  refine fn (k171 w a) fun _ => ?_
  refine nf ?_
  refine st ?_
  refine iw ?_ ?_ <;> intro ha
  · (repeat' (first | refine st ?_ | (refine iw ?_ ?_ <;> intro h <;> try exact ko) | intro b))
    have e : areaWrite W a ls = (zPair, 1, W) := by unfold areaWrite; rw [if_neg (by rintro ⟨h, _⟩; exact ha h)]
    rw [e]
    (first | exact retU | exact retB)
  refine W_len (see mem') ?_
  refine st ?_
  refine st ?_
  refine st ?_
  refine st ?_
  refine st ?_
  refine iw ?_ ?_ <;> intro hlen
  · (repeat' (first | refine st ?_ | (refine iw ?_ ?_ <;> intro h <;> try exact ko) | intro b))
    have e : areaWrite W a ls = (zPair, 1, W) := by unfold areaWrite; rw [if_neg (by rintro ⟨_, h, _⟩; exact hlen h)]
    rw [e]
    (first | exact retU | exact retB)
  have hsl := fit.sl
  have hl16 : ls.length ≤ 16 := by omega
  refine W_len (see mem') ?_
  refine W_loopX ls.length (fun i _ => ∀ k (hk : k < ls.length), k < i → isLeaf ls[k] k = true) (fun i (q : Value × Value) => [q.1, q.2, .int .i64 i]) (fun i (q : Value × Value) => [own q.1 (rowsOf (ls.take i)), own q.2 (rowsOf (ls.take i)).flatten, blk b0 [.int .u64 0, .int .u64 0], A] ++ wldL w ad W) (.slice none 0 0, .slice none 0 0) (fun k _ h => absurd h (by omega)) ((ent_ownNil (α := List UInt8)).trans ((ent_ownNil (α := UInt8)).trans en')) rfl ?_
  rintro i ⟨r1, r2⟩ j hi hC
  refine nf ?_
  refine st ?_
  refine iw ?_ ?_ <;> intro hlt
  · have hlt : i < ls.length := by omega
    refine W_ixE (xs := ls) (x := ls[i]) (see mem') rfl (by omega) hx' ?_
    (repeat' (first | refine st ?_ | (refine iw ?_ ?_ <;> intro h <;> try exact ko) | intro b))
    refine fn (k172 ls[i] i) fun r => ?_
    refine nf ?_
    refine st ?_
    refine st ?_
    refine st ?_
    refine iw ?_ ?_ <;> intro hp
    · have hbad : isLeaf ls[i] i = false := by
        unfold putLeaf at hp
        cases hh : isLeaf ls[i] i with
        | false => rfl
        | true => rw [hh] at hp; simp at hp
      (repeat' (first | refine st ?_ | (refine iw ?_ ?_ <;> intro h <;> try exact ko) | intro b))
      have e : areaWrite W a ls = (zPair, 1, W) := by unfold areaWrite; rw [if_neg (by rintro ⟨_, _, h⟩; rw [okLs_no hlt hbad] at h; cases h)]
      rw [e]
      (first | exact retU | exact retB)
    · have hgood : isLeaf ls[i] i = true := by
        unfold putLeaf at hp
        cases hh : isLeaf ls[i] i with
        | true => rfl
        | false => rw [hh] at hp; simp at hp
      have ep : putLeaf ls[i] i = (leafBytes ls[i], true) := by unfold putLeaf; rw [if_pos hgood]
      rw [ep]
      have er : rowsOf (ls.take (i + 1)) = rowsOf (ls.take i) ++ [leafBytes ls[i]] := by rw [take_succ' hlt]; unfold rowsOf; rw [List.map_append]; rfl
      have hfl := flat_rows (ls := ls.take i)
      have hrl := rowsOf_len (ls.take i)
      have htl : (ls.take i).length ≤ 16 := by simp; omega
      refine W_app1 (xs := rowsOf (ls.take i)) (y := leafBytes ls[i]) pk' (ent_frz mem') rfl ⟨rfl, by decide, by decide⟩ (by omega) fun r1' => ?_
      refine W_appS (xs := (rowsOf (ls.take i)).flatten) (ys := leafBytes ls[i]) pk' sees' rfl ⟨rfl, by decide, by decide⟩ (by rw [leafBytes_len]; omega) fun r2' => ?_
      (repeat' (first | refine st ?_ | (refine iw ?_ ?_ <;> intro h <;> try exact ko) | intro b))
      refine fi ?_
      refine ⟨(r1', r2'), by omega, ?_, rfl, ?_⟩
      · intro k hk hki
        by_cases hk2 : k = i
        · subst hk2; exact hgood
        · exact hC k hk (by omega)
      · rw [er, List.flatten_append, List.flatten_singleton]
        exact en'
  have : i = ls.length := by omega
  subst this
  rw [List.take_length]
  have hok : okLs ls = true := okLs_yes fun k hk => hC k hk hk
  refine fi ?_
  intro j
  refine nf ?_
  refine W_frzS (v := r1) pk' ?_
  refine W_frzS (v := r2) pk' ?_
  (repeat' (first | refine st ?_ | (refine iw ?_ ?_ <;> intro h <;> try exact ko) | intro b))
  refine fn (k173 ad.l W.lk r1 (rowsOf ls) n fit.lk (by omega) (by rw [rowsOf_len]; omega) (by
    intro r hr
    obtain ⟨l, _, rfl⟩ := List.mem_map.1 hr
    rw [leafBytes_len]; decide)) fun nd => ?_
  have hbl := buildT_len W.lk (rowsOf ls)
  rw [rowsOf_len] at hbl
  have hbf := buildT_fit fit.lk (rowsOf ls)
  generalize hbt : buildT W.lk (rowsOf ls) = bt at *
  refine nf ?_
  refine st ?_
  refine st ?_
  refine W_len (xs := bt.1) sees' ?_
  refine W_loopX bt.1.length (fun _ _ => True) (fun i q => [q, .int .i64 i]) (fun i (q : Value) => [own q (sumsOf (bt.1.take i)), own nd bt.1, lockA ad.l bt.2, frz r1 (rowsOf ls), frz r2 (rowsOf ls).flatten, blk b0 [.int .u64 0, .int .u64 0], A, fzb w [.int .i64 W.slots, ptr ad.p, ptr ad.s, ptr ad.d, ptr ad.c, ptr ad.k, ptr ad.l], powA ad.p W.pw, ssdA ad.s ad.p W.sd, dskA ad.d ad.p W.dk, cntA ad.c ad.p W.cn, keysA ad.k ad.p W.ks]) (.slice none 0 0) trivial ((ent_ownNil (α := UInt8)).trans en') rfl ?_
  rintro i q j hi -
  refine nf ?_
  refine st ?_
  refine iw ?_ ?_ <;> intro hlt
  · have hlt : i < bt.1.length := by omega
    have hsn := sums_len (l := bt.1.take i)
    rw [List.length_take] at hsn
    refine W_ixE (xs := bt.1) (x := bt.1[i]) sees' rfl (by omega) hx' ?_
    (repeat' (first | refine st ?_ | (refine iw ?_ ?_ <;> intro h <;> try exact ko) | intro b))
    refine fn (k174 bt.1[i]) fun r => ?_
    refine nf ?_
    refine W_appS (xs := sumsOf (bt.1.take i)) (ys := bytesB bt.1[i]) pk' sees' rfl ⟨rfl, by decide, by decide⟩ (by rw [bytesB_len]; omega) fun q' => ?_
    (repeat' (first | refine st ?_ | (refine iw ?_ ?_ <;> intro h <;> try exact ko) | intro b))
    refine fi ?_
    refine ⟨q', by omega, trivial, rfl, ?_⟩
    rw [take_succ' hlt, sums_snoc]
    exact en'
  have : i = bt.1.length := by omega
  subst this
  rw [List.take_length]
  refine fi ?_
  intro j
  refine nf ?_
  refine W_frzS (v := q) pk' ?_
  have hw1 := writeS_fit fit.sd W.pw (gLeaf W.slots a 0) (rowsOf ls).flatten
  have okS1 := fit.sd.ok hsl (by omega)
  refine W_ent (Pick.dup (A := fzb w [.int .i64 W.slots, ptr ad.p, ptr ad.s, ptr ad.d, ptr ad.c, ptr ad.k, ptr ad.l]) pk' (fzb_dup _ _)) ?_
  refine W_draw [fzb w [.int .i64 W.slots, ptr ad.p, ptr ad.s, ptr ad.d, ptr ad.c, ptr ad.k, ptr ad.l]] sub' fun ro' hle hb => ?_
  obtain ⟨k1, hb⟩ := Kn.of_big hb
  (repeat' (first | refine st ?_ | (refine iw ?_ ?_ <;> intro h <;> try exact ko) | intro b))
  refine fn (k176 W.slots a 0) fun _ => ?_
  refine fn (k175 ad.s ad.p W.pw W.sd (gLeaf W.slots a 0) r2 (rowsOf ls).flatten okS1.1 okS1.2.1 okS1.2.2.1) fun _ => ?_
  refine nf ?_
  refine st ?_
  have rest : (∀ k (hk : k < ls.length), isLeaf ls[k] k = true) → True := fun _ => trivial
  have hcond : (0 ≤ a ∧ a < 2) ∧ (ls.length : Int) = W.slots ∧ okLs ls = true := ⟨ha, hlen, hok⟩
  refine iw ?_ ?_ <;> intro h1
  · refine fi ?_
    intro j
    refine nf ?_
    (repeat' (first | refine st ?_ | (refine iw ?_ ?_ <;> intro h <;> try exact ko) | intro b))
    have e : areaWrite W a ls = (zPair, 7, { W with lk := bt.2, pw := (writeS W.pw W.sd (gLeaf W.slots a 0) (rowsOf ls).flatten).2.1, sd := (writeS W.pw W.sd (gLeaf W.slots a 0) (rowsOf ls).flatten).2.2 }) := by unfold areaWrite; rw [if_pos hcond, if_neg (by rw [h1]; decide), hbt]
    rw [e]
    (first | exact retU | exact retB)
  · have okS2 := hw1.ok hsl (by omega)
    (repeat' (first | refine st ?_ | (refine iw ?_ ?_ <;> intro h <;> try exact ko) | intro b))
    refine fn (k177 W.slots a 0) fun _ => ?_
    refine fn (k175 ad.s ad.p _ _ (gNode W.slots a 0) q (sumsOf bt.1) okS2.1 okS2.2.1 okS2.2.2.1) fun _ => ?_
    refine nf ?_
    refine st ?_
    refine fi ?_
    intro j
    refine nf ?_
    refine iw ?_ ?_ <;> intro h2
    · (repeat' (first | refine st ?_ | (refine iw ?_ ?_ <;> intro h <;> try exact ko) | intro b))
      have e : areaWrite W a ls = (zPair, 7, { W with lk := bt.2, pw := (writeS (writeS W.pw W.sd (gLeaf W.slots a 0) (rowsOf ls).flatten).2.1 (writeS W.pw W.sd (gLeaf W.slots a 0) (rowsOf ls).flatten).2.2 (gNode W.slots a 0) (sumsOf bt.1)).2.1, sd := (writeS (writeS W.pw W.sd (gLeaf W.slots a 0) (rowsOf ls).flatten).2.1 (writeS W.pw W.sd (gLeaf W.slots a 0) (rowsOf ls).flatten).2.2 (gNode W.slots a 0) (sumsOf bt.1)).2.2 }) := by unfold areaWrite; rw [if_pos hcond, if_pos h1, hbt, if_neg (by rw [h2]; decide)]
      rw [e]
      (first | exact retU | exact retB)
    · refine W_ixE (xs := bt.1) (x := bt.1[1]'(by omega)) sees' rfl (by omega) (by rw [show (1 : Int).toNat = 1 from rfl, List.getElem?_eq_getElem (by omega)]) ?_
      (repeat' (first | refine st ?_ | (refine iw ?_ ?_ <;> intro h <;> try exact ko) | intro b))
      have e : areaWrite W a ls = (bt.1[1]'(by omega), 0, { W with lk := bt.2, pw := (writeS (writeS W.pw W.sd (gLeaf W.slots a 0) (rowsOf ls).flatten).2.1 (writeS W.pw W.sd (gLeaf W.slots a 0) (rowsOf ls).flatten).2.2 (gNode W.slots a 0) (sumsOf bt.1)).2.1, sd := (writeS (writeS W.pw W.sd (gLeaf W.slots a 0) (rowsOf ls).flatten).2.1 (writeS W.pw W.sd (gLeaf W.slots a 0) (rowsOf ls).flatten).2.2 (gNode W.slots a 0) (sumsOf bt.1)).2.2 }) := by unfold areaWrite; rw [if_pos hcond, if_pos h1, hbt, if_pos h2, List.getElem?_eq_getElem (by omega)]; rfl
      rw [e]
      (first | exact retU | exact retB)
end Go.Lb
