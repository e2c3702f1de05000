/- Contracts: world, tree. No statement of the seat is proved in this file. -/
import Derived.Test.YtkblnbbpeakgmaaGreatCR
set_option linter.all false
namespace Go.Lb
open Go.Proofs
attribute [local irreducible] WT blk fzb own frz mp exL isA Ent Tri updE drawE At Kn See SeeS

section
variable {P : Program} {hb : Nat → Bool} {d : Bool} {ro : HP} {S : List Asrt} {R : Value → List Asrt → Prop} {Ev : Nat → List Value → List Asrt → Prop}
/-- a thing is written at a place that was reckoned out before -/
theorem W_stO {α : Type} {rα : Rep α} {es b off n cap i : Nat} {xs : List α} {y : α} {u : Value} {S1 S2 : List Asrt} {k : Value → Tr} (pk : Pick S (own (.slice (some ⟨b, off, none⟩) n cap) xs) S1) (e : Ent S1 (isA u y :: S2)) (he : es = Rep.es α) (hi : i < xs.length)
    (x : WT P hb (k (.tuple #[])) d ro (own (.slice (some ⟨b, off, none⟩) n cap) (xs.set i y) :: S2) R Ev) : WT P hb (.hv (.st es (.pointer (some ⟨b, off + i * es, none⟩)) u) k) d ro S R Ev := by
  subst he
  have hle := mul_le' (c := Rep.es α) hi
  refine W_ent (pk.ent.trans (Ent.cons _ e)) ?_
  refine W_openS .hd (fun _ e => ?_) ?_
  · subst e; simp at hi
  intro b' off' cap' pre post cells heq hc hpre hpost hlen
  cases heq
  refine W_pure (p := u.cells.toList.length = Rep.es α ∧ u.cells.toList.all Value.oneCell' = true) (.tl (.tl .hd)) (fun g a => by with_unfolding_all exact ⟨Rep.len a, Rep.oc a⟩) ?_
  rintro ⟨hul, huo⟩
  refine W_st (.tl .hd) hul (by simp; omega) huo ?_
  subst hpre
  rw [splice_mid (by omega)]
  refine W_ent ?_ x
  refine Ent.trans (S' := blk b (pre ++ splice cells (i * Rep.es α) u.cells.toList ++ post) :: repsA (xs.set i y) (splice cells (i * Rep.es α) u.cells.toList) :: S2) ?_ ?_
  · refine Ent.cons _ ?_
    refine (Ent.swap _ _ _).trans ?_
    refine star_two (fun h _ _ a b => ?_) (fun l r => repsA_mono l r) (fun l r => by with_unfolding_all exact Rep.mono r l)
    exact reps_set a (by with_unfolding_all exact b) hi
  · have := ent_own (S := S2) (b := b) (cap := cap) (pre := pre) (post := post) (cells := splice cells (i * Rep.es α) u.cells.toList) (xs := xs.set i y) (by simpa using hc) rfl (by simpa using hpost)
    simpa using this
end
/-! ### what fits -/
def fitO (x : Orc) (n : Nat) : Prop := x.issued.length ≤ n ∧ x.sums.length ≤ n ∧ ∀ i ∈ x.issued, okI i
def fitL : Lk → Nat → Prop
  | .real r, _ => RealOk r
  | .ideal x, n => fitO x n
theorem fitL.ok {lk : Lk} {n : Nat} (h : fitL lk n) (hn : n ≤ 2 ^ 30) : okL lk := by
  cases lk with
  | real r => exact h
  | ideal x => exact ⟨Nat.le_trans h.1 hn, Nat.le_trans h.2.1 hn, h.2.2⟩
theorem fitL.mono {lk : Lk} {n m : Nat} (h : fitL lk n) (hn : n ≤ m) : fitL lk m := by
  cases lk with
  | real r => exact h
  | ideal x => exact ⟨Nat.le_trans h.1 hn, Nat.le_trans h.2.1 hn, h.2.2⟩
theorem fitL.sum {lk : Lk} {n : Nat} (h : fitL lk n) (k : List UInt8) : fitL (sumL lk k).2 (n + 1) := by
  cases lk with
  | real r => exact h
  | ideal x =>
    obtain ⟨h1, h2, h3⟩ := h
    unfold sumL sumO fitL
    simp only
    split
    · exact ⟨by omega, by omega, h3⟩
    · exact ⟨by show x.issued.length ≤ _; omega, by simp; omega, h3⟩
theorem fitL.sea {lk : Lk} {n : Nat} (h : fitL lk n) (key : Pair) (no : Nonce) (head data : List UInt8) : fitL (sealL lk key no head data).2 (n + 1) := by
  cases lk with
  | real r => exact h
  | ideal x =>
    obtain ⟨h1, h2, h3⟩ := h
    unfold sealL sealO fitL
    simp only
    split
    · rename_i hh
      refine ⟨by simp; omega, by show x.sums.length ≤ _; omega, ?_⟩
      intro i hi
      rcases List.mem_append.1 hi with hi | hi
      · exact h3 i hi
      · rw [List.mem_singleton.1 hi]
        exact ⟨hh.1, hh.2, by unfold sealB; rw [cyc_len]; exact hh.2⟩
    · exact ⟨by show x.issued.length ≤ _; omega, by show x.sums.length ≤ _; omega, h3⟩
structure Wd where
  slots : Int
  pw : Pw
  sd : Sd
  dk : Dk
  cn : Cn
  ks : Ks
  lk : Lk
structure Ad where
  p : Nat
  s : Nat
  d : Nat
  c : Nat
  k : Nat
  l : Nat
def fitS (slots : Int) (x : Sd) (n : Nat) : Prop := (x.lasts.length : Int) = gSize slots ∧ x.waits.length ≤ n ∧ x.trace.length ≤ n ∧ ∀ o ∈ x.waits, okO x.lasts.length o
def fitD (x : Dk) (n : Nat) : Prop := x.lasts.length = 32 ∧ x.waits.length ≤ n ∧ x.trace.length ≤ n ∧ (∀ b ∈ x.lasts, b.length = 32) ∧ ∀ o ∈ x.waits, 0 ≤ o.off ∧ o.off < 32 ∧ o.bytes.length = 32
structure fitW (W : Wd) (n : Nat) : Prop where
  sl : isG W.slots
  sd : fitS W.slots W.sd n
  dk : fitD W.dk n
  ks : W.ks.epochs.length ≤ n ∧ W.ks.epochs ≠ []
  lk : fitL W.lk n
theorem fitS.ok {slots : Int} {x : Sd} {n : Nat} (h : fitS slots x n) (hs : isG slots) (hn : n ≤ 2 ^ 30) : okS x := by
  obtain ⟨h1, h2, h3, h4⟩ := h
  refine ⟨?_, by omega, by omega, h4⟩
  unfold gSize at h1
  rw [if_pos hs] at h1
  omega
theorem fitD.ok {x : Dk} {n : Nat} (h : fitD x n) (hn : n ≤ 2 ^ 30) : okD x := by
  obtain ⟨h1, h2, h3, h4, h5⟩ := h
  exact ⟨h1, by omega, by omega, h4, h5⟩
theorem fitS.mono {slots : Int} {x : Sd} {n m : Nat} (h : fitS slots x n) (hn : n ≤ m) : fitS slots x m := by
  obtain ⟨h1, h2, h3, h4⟩ := h
  exact ⟨h1, by omega, by omega, h4⟩
theorem fitD.mono {x : Dk} {n m : Nat} (h : fitD x n) (hn : n ≤ m) : fitD x m := by
  obtain ⟨h1, h2, h3, h4, h5⟩ := h
  exact ⟨h1, by omega, by omega, h4, h5⟩
theorem fitW.mono {W : Wd} {n m : Nat} (h : fitW W n) (hn : n ≤ m) : fitW W m := ⟨h.sl, h.sd.mono hn, h.dk.mono hn, ⟨by have := h.ks.1; omega, h.ks.2⟩, h.lk.mono hn⟩

/-! ### the world -/
def wldB (ad : Ad) (slots : Int) : List Value := [.int .i64 slots, ptr ad.p, ptr ad.s, ptr ad.d, ptr ad.c, ptr ad.k, ptr ad.l]
abbrev wldL (w : Nat) (ad : Ad) (W : Wd) : List Asrt := [fzb w [.int .i64 W.slots, ptr ad.p, ptr ad.s, ptr ad.d, ptr ad.c, ptr ad.k, ptr ad.l], powA ad.p W.pw, ssdA ad.s ad.p W.sd, dskA ad.d ad.p W.dk, cntA ad.c ad.p W.cn, keysA ad.k ad.p W.ks, lockA ad.l W.lk]
def newW (slots : Int) (seed : UInt64) (lk : Lk) : Wd := ⟨slots, ⟨false, false, 0, 0⟩, ⟨List.replicate (gSize slots).toNat 0, [], []⟩, zDk, zCn, ⟨seed, [1]⟩, lk⟩
def newLk (r : RealF) (ideal : Bool) : Lk := if ideal then .ideal ⟨[], []⟩ else .real r
theorem k28n {ro : HP} (slots : Int) (seed : UInt64) (ideal : Bool) (h : ¬ isG slots) : Fn Tryz.prog ro 28 [.int .i64 slots, val seed, .bool ideal] [] fun _ : Unit => (.tuple ⟨[nil, .int .i64 1]⟩, []) := by
  refine c28 _ _ _ ?_
  unfold t28
  refine fn (k91 slots) fun _ => ?_
  refine nf ?_
  refine st ?_
  refine iw ?_ ?_ <;> intro h1
  · (first | exact retU | exact retB)
  · exact absurd h1 h
theorem k28 {ro : HP} (slots : Int) (seed : UInt64) (ideal : Bool) (r : RealF) (h : isG slots) : Fn Tryz.prog ro 28 [.int .i64 slots, val seed, .bool ideal] [] fun b : Nat × Ad => (.tuple ⟨[ptr b.1, .int .i64 0]⟩, wldL b.1 b.2 (newW slots seed (newLk r ideal))) := by
  refine c28 _ _ _ ?_
  unfold t28
  have hg : gSize slots = slots * 160 + 120 := by unfold gSize; rw [if_pos h]
  refine fn (k91 slots) fun _ => ?_
  refine nf ?_
  refine st ?_
  refine iw ?_ ?_ <;> intro h1
  · exact absurd h h1
  refine st ?_
  refine fn k92 fun p => ?_
  refine st ?_
  intro b
  refine st ?_
  refine fn (k93 r) fun l0 => ?_
  refine nf ?_
  refine iw ?_ ?_ <;> intro hi
  · refine fn k94 fun l => ?_
    refine nf ?_
    refine W_draw [blk b [.int .i64 slots]] sub' fun ro' hle hb => ?_
    obtain ⟨k1, hb⟩ := Kn.of_big hb
    (repeat' (first | refine st ?_ | (refine iw ?_ ?_ <;> intro h <;> try exact ko) | intro b))
    refine fn (k96 slots) fun _ => ?_
    refine fn (k95 (gSize slots) p (by omega)) fun s => ?_
    refine fn (k97 p) fun d => ?_
    refine fn (k98 p) fun c => ?_
    refine fn (k99 seed p) fun k => ?_
    refine nf ?_
    refine st ?_
    refine st ?_
    intro w
    refine fi ?_
    intro j
    refine nf ?_
    refine W_frz (b := w) (l := [.int .i64 slots, ptr p, ptr s, ptr d, ptr c, ptr k, ptr l]) pk' ?_
    have e : newLk r ideal = .ideal ⟨[], []⟩ := by unfold newLk; rw [if_pos hi]
    rw [e]
    exact W_retE (w, ⟨p, s, d, c, k, l⟩) rfl en'
  · refine W_draw [blk b [.int .i64 slots]] sub' fun ro' hle hb => ?_
    obtain ⟨k1, hb⟩ := Kn.of_big hb
    (repeat' (first | refine st ?_ | (refine iw ?_ ?_ <;> intro h <;> try exact ko) | intro b))
    refine fn (k96 slots) fun _ => ?_
    refine fn (k95 (gSize slots) p (by omega)) fun s => ?_
    refine fn (k97 p) fun d => ?_
    refine fn (k98 p) fun c => ?_
    refine fn (k99 seed p) fun k => ?_
    refine nf ?_
    refine st ?_
    refine st ?_
    intro w
    refine fi ?_
    intro j
    refine nf ?_
    refine W_frz (b := w) (l := [.int .i64 slots, ptr p, ptr s, ptr d, ptr c, ptr k, ptr l0]) pk' ?_
    have e : newLk r ideal = .real r := by unfold newLk; rw [if_neg (by rw [hi]; decide)]
    rw [e]
    exact W_retE (w, ⟨p, s, d, c, k, l0⟩) rfl en'
/-- the current epoch, and its key -/
def keyW (x : Ks) : UInt32 × Pair := (lastE x.epochs, (keyP x (lastE x.epochs)).1)
theorem k179 {ro : HP} (w : Nat) (ad : Ad) (slots : Int) (x : Ks) (hl : x.epochs.length ≤ 2 ^ 40) (h0 : x.epochs ≠ []) : Fn Tryz.prog ro 179 [ptr w] [fzb w (wldB ad slots), keysA ad.k ad.p x] fun _ : Unit => (.tuple ⟨[val (keyW x).1, agg (keyW x).2]⟩, [fzb w (wldB ad slots), keysA ad.k ad.p x]) := by
  refine c179 _ ?_
  unfold t179 wldB
  refine st ?_
  intro b0
  (repeat' (first | refine st ?_ | (refine iw ?_ ?_ <;> intro h <;> try exact ko) | intro b))
  refine fn (k54 ad.k ad.p x hl h0) fun _ => ?_
  refine nf ?_
  (repeat' (first | refine st ?_ | (refine iw ?_ ?_ <;> intro h <;> try exact ko) | intro b))
  refine fn (k155 ad.k ad.p x (lastE x.epochs) hl) fun _ => ?_
  refine nf ?_
  (repeat' (first | refine st ?_ | (refine iw ?_ ?_ <;> intro h <;> try exact ko) | intro b))
  refine W_draw [blk b0 (Enc.enc (keyP x (lastE x.epochs)).1)] sub' fun ro' hle hb => ?_
  obtain ⟨k1, hb⟩ := Kn.of_big hb
  (repeat' (first | refine st ?_ | (refine iw ?_ ?_ <;> intro h <;> try exact ko) | intro b))
  refine fi ?_
  intro j
  refine nf ?_
  (repeat' (first | refine st ?_ | (refine iw ?_ ?_ <;> intro h <;> try exact ko) | intro b))
  (first | exact retU | exact retB)
def crashW (W : Wd) (keep : List Bool) : Wd := { W with sd := crashS W.sd keep, dk := crashD W.dk keep, pw := backP W.pw }
theorem k37 {ro : HP} (w : Nat) (ad : Ad) (W : Wd) (v : Value) (keep : List Bool) (ok1 : okS W.sd) (ok2 : okD W.dk) : Fn Tryz.prog ro 37 [ptr w, v] (frz v keep :: wldL w ad W) fun _ : Unit => (.tuple #[], frz v keep :: wldL w ad (crashW W keep)) := by
  refine c37 _ _ ?_
  unfold t37
  (repeat' (first | refine st ?_ | (refine iw ?_ ?_ <;> intro h <;> try exact ko) | intro b))
  refine fn (k107 ad.s ad.p v W.sd keep ok1) fun _ => ?_
  (repeat' (first | refine st ?_ | (refine iw ?_ ?_ <;> intro h <;> try exact ko) | intro b))
  refine fn (k108 ad.d ad.p v W.dk keep ok2) fun _ => ?_
  (repeat' (first | refine st ?_ | (refine iw ?_ ?_ <;> intro h <;> try exact ko) | intro b))
  refine fn (k109 ad.p W.pw) fun _ => ?_
  refine nf ?_
  (first | exact retU | exact retB)

/-! ### the tree -/
def leafSum (lk : Lk) (leaf : List UInt8) : Pair × Lk := sumL lk ([0] ++ leaf)
def nodeSum (lk : Lk) (a b : Pair) : Pair × Lk := sumL lk ([1] ++ (bytesB a ++ bytesB b))
theorem ent_u8 {S : List Asrt} {x : UInt8} {u : Value} (h : u = val x) : Ent S (repsA ([x] : List UInt8) [u] :: S) := ent_triv (by subst h; exact reps_sc.2 rfl)
theorem k248 {ro : HP} (l : Nat) (lk : Lk) (v : Value) (leaf : List UInt8) (ok : okL lk) (hl : leaf.length ≤ 2 ^ 20) : Fn Tryz.prog ro 248 [ptr l, v] [lockA l lk, frz v leaf] fun _ : Unit => (agg (leafSum lk leaf).1, [lockA l (leafSum lk leaf).2, frz v leaf]) := by
  refine c248 _ _ ?_
  unfold t248
  (refine W_slO (v := v) sees' ?_; rintro a n c rfl)
  refine st ?_
  intro b0
  refine W_bslS (ys := ([0] : List UInt8)) (l := [.int .u8 0]) rfl rfl rfl ⟨by omega, rfl⟩ (ent_triv (reps_sc.2 rfl)) fun v1 => ?_
  refine W_frzS (v := v1) pk' ?_
  refine W_slO (v := v1) sees' ?_
  rintro a1 n1 c1 rfl
  refine W_bslS (ys := [[0], leaf]) (l := [.slice a1 n1 c1, .slice a n c]) rfl rfl rfl ⟨by omega, rfl⟩ (ent_row0.trans ((ent_rowc mem').trans (ent_rowc mem'))) fun v2 => ?_
  refine W_frzS (v := v2) pk' ?_
  have hfl : [[0], leaf].flatten = [0] ++ leaf := by simp
  refine fn (k303 l lk v2 [[0], leaf] ok (by rw [hfl]; simp; omega) (by simp)) fun _ => ?_
  rw [hfl]
  (repeat' (first | refine st ?_ | (refine iw ?_ ?_ <;> intro h <;> try exact ko) | intro b))
  (first | exact retU | exact retB)
theorem bytesB_len (p : Pair) : (bytesB p).length = 16 := by rw [bytesB]; simp [putB_len]
theorem k249 {ro : HP} (l : Nat) (lk : Lk) (x y : Pair) (ok : okL lk) : Fn Tryz.prog ro 249 [ptr l, agg x, agg y] [lockA l lk] fun _ : Unit => (agg (nodeSum lk x y).1, [lockA l (nodeSum lk x y).2]) := by
  refine c249 _ _ _ ?_
  unfold t249
  refine st ?_
  intro b0
  refine st ?_
  intro b1
  refine st ?_
  intro b2
  refine W_draw [blk b0 (Enc.enc x), blk b1 (Enc.enc y)] sub' fun ro' hle hb => ?_
  obtain ⟨k1, hb⟩ := Kn.of_big hb
  obtain ⟨k2, hb⟩ := Kn.of_big hb
  (repeat' (first | refine st ?_ | (refine iw ?_ ?_ <;> intro h <;> try exact ko) | intro b))
  refine fn (k174 x) fun r1 => ?_
  refine fn (k174 y) fun r2 => ?_
  refine nf ?_
  refine W_frzS (v := r1) pk' ?_
  refine W_frzS (v := r2) pk' ?_
  refine W_slO (v := r1) sees' ?_
  rintro a1 n1 c1 rfl
  refine W_slO (v := r2) sees' ?_
  rintro a2 n2 c2 rfl
  refine W_bslS (ys := ([1] : List UInt8)) (l := [.int .u8 1]) rfl rfl rfl ⟨by omega, rfl⟩ (ent_triv (reps_sc.2 rfl)) fun v1 => ?_
  refine W_frzS (v := v1) pk' ?_
  refine W_slO (v := v1) sees' ?_
  rintro a n c rfl
  refine W_bslS (ys := [[1], bytesB x, bytesB y]) (l := [.slice a n c, .slice a1 n1 c1, .slice a2 n2 c2]) rfl rfl rfl ⟨by omega, rfl⟩ (ent_row0.trans ((ent_rowc mem').trans ((ent_rowc mem').trans (ent_rowc mem')))) fun v2 => ?_
  refine W_frzS (v := v2) pk' ?_
  have hfl : [[1], bytesB x, bytesB y].flatten = [1] ++ (bytesB x ++ bytesB y) := by simp
  have h1 := bytesB_len x
  have h2 := bytesB_len y
  refine fn (k303 l lk v2 [[1], bytesB x, bytesB y] ok (by rw [hfl]; simp; omega) (by simp)) fun _ => ?_
  rw [hfl]
  refine nf ?_
  refine fi ?_
  intro j
  (repeat' (first | refine st ?_ | (refine iw ?_ ?_ <;> intro h <;> try exact ko) | intro b))
  (first | exact retU | exact retB)
/-- leaves' sums, the first i -/
def leavesT (lk : Lk) (rows : List (List UInt8)) : Nat → List Pair × Lk
  | 0 => (List.replicate (2 * rows.length) zPair, lk)
  | i + 1 => ((leavesT lk rows i).1.set (rows.length + i) (leafSum (leavesT lk rows i).2 (rows[i]?.getD [])).1, (leafSum (leavesT lk rows i).2 (rows[i]?.getD [])).2)
/-- nodes' sums, from above n on -/
def nodesT (n : Nat) (st : List Pair × Lk) : Nat → List Pair × Lk
  | 0 => st
  | j + 1 => ((nodesT n st j).1.set (n - 1 - j) (nodeSum (nodesT n st j).2 ((nodesT n st j).1[2 * (n - 1 - j)]?.getD zPair) ((nodesT n st j).1[2 * (n - 1 - j) + 1]?.getD zPair)).1,
      (nodeSum (nodesT n st j).2 ((nodesT n st j).1[2 * (n - 1 - j)]?.getD zPair) ((nodesT n st j).1[2 * (n - 1 - j) + 1]?.getD zPair)).2)
@[irreducible] def buildT (lk : Lk) (rows : List (List UInt8)) : List Pair × Lk := nodesT rows.length (leavesT lk rows rows.length) (rows.length - 1)
theorem leavesT_len (lk : Lk) (rows : List (List UInt8)) (i : Nat) : (leavesT lk rows i).1.length = 2 * rows.length := by
  induction i with
  | zero => simp [leavesT]
  | succ i ih => simp [leavesT, ih]
theorem nodesT_len (n : Nat) (st : List Pair × Lk) (i : Nat) : (nodesT n st i).1.length = st.1.length := by
  induction i with
  | zero => rfl
  | succ i ih => simp [nodesT, ih]
theorem buildT_len (lk : Lk) (rows : List (List UInt8)) : (buildT lk rows).1.length = 2 * rows.length := by rw [buildT, nodesT_len, leavesT_len]
theorem leavesT_fit {lk : Lk} {n : Nat} (h : fitL lk n) (rows : List (List UInt8)) (i : Nat) : fitL (leavesT lk rows i).2 (n + i) := by
  induction i with
  | zero => exact h
  | succ i ih => exact ih.sum _
theorem nodesT_fit {st : List Pair × Lk} {n m : Nat} (h : fitL st.2 n) (i : Nat) : fitL (nodesT m st i).2 (n + i) := by
  induction i with
  | zero => exact h
  | succ i ih => exact ih.sum _
theorem buildT_fit {lk : Lk} {n : Nat} (h : fitL lk n) (rows : List (List UInt8)) : fitL (buildT lk rows).2 (n + 2 * rows.length) := by
  rw [buildT]
  exact (nodesT_fit (leavesT_fit h rows rows.length) _).mono (by omega)
theorem ent_pair {S : List Asrt} {p : Pair} : Ent S (isA (agg p) p :: S) := ent_enc rfl
theorem k173 {ro : HP} (l : Nat) (lk : Lk) (v : Value) (rows : List (List UInt8)) (n : Nat) (fit : fitL lk n) (hn : n ≤ 2 ^ 29) (hr : isG rows.length) (hb : ∀ r ∈ rows, r.length ≤ 2 ^ 20) :
    Fn Tryz.prog ro 173 [ptr l, v] [lockA l lk, frz v rows] fun r : Value => (.tuple ⟨[r, .bool true]⟩, [own r (buildT lk rows).1, lockA l (buildT lk rows).2, frz v rows]) := by
  refine c173 _ _ ?_
  unfold t173
  (repeat' (first | refine st ?_ | (refine iw ?_ ?_ <;> intro h <;> try exact ko) | intro b))
  refine fn (k91 rows.length) fun _ => ?_
  refine nf ?_
  refine st ?_
  refine iw ?_ ?_ <;> intro h1
  · exact absurd hr h1
  refine st ?_
  refine W_mkS (z := zPair) rfl (fun _ => rfl) (by omega) fun r => ?_
  (repeat' (first | refine st ?_ | (refine iw ?_ ?_ <;> intro h <;> try exact ko) | intro b))
  refine W_loopX rows.length (fun _ _ => True) (fun i _ => [.int .i64 i]) (fun i (_ : Unit) => [own r (leavesT lk rows i).1, lockA l (leavesT lk rows i).2, frz v rows]) () trivial (by
    rw [show (2 * (rows.length : Int)).toNat = 2 * rows.length from by omega]
    exact en') rfl ?_
  · rintro i _ j hi -
    refine nf ?_
    refine st ?_
    refine iw ?_ ?_ <;> intro hlt
    · have hlt : i < rows.length := by omega
      refine W_ixF (xs := rows) (x := rows[i]) sees' (by omega) hx' fun u => ?_
      refine W_add (by omega) ?_
      have ft := leavesT_fit fit rows i
      refine fn (k248 l (leavesT lk rows i).2 u rows[i] (ft.ok (by omega)) (hb _ (List.getElem_mem hlt))) fun _ => ?_
      have hll := leavesT_len lk rows i
      refine W_ixst (xs := (leavesT lk rows i).1) (y := (leafSum (leavesT lk rows i).2 rows[i]).1) pk' ent_pair rfl (by omega) (by omega) ?_
      rw [show ((rows.length : Int) + i).toNat = rows.length + i from by omega]
      (repeat' (first | refine st ?_ | (refine iw ?_ ?_ <;> intro h <;> try exact ko) | intro b))
      refine fi ?_
      refine ⟨(), by omega, trivial, rfl, ?_⟩
      have e1 : (leavesT lk rows (i + 1)).1 = (leavesT lk rows i).1.set (rows.length + i) (leafSum (leavesT lk rows i).2 rows[i]).1 := by simp only [leavesT]; rw [List.getElem?_eq_getElem hlt]; rfl
      have e2 : (leavesT lk rows (i + 1)).2 = (leafSum (leavesT lk rows i).2 rows[i]).2 := by simp only [leavesT]; rw [List.getElem?_eq_getElem hlt]; rfl
      rw [e1, e2]
      exact en'
    · have : i = rows.length := by omega
      subst this
      have ft := leavesT_fit fit rows rows.length
      have hll := leavesT_len lk rows rows.length
      generalize hst : leavesT lk rows rows.length = sT at *
      refine fi ?_
      intro j
      refine nf ?_
      refine W_sub' (by omega) ?_
      refine W_loopX (rows.length - 1) (fun _ _ => True) (fun i _ => [.int .i64 ((rows.length : Int) - 1 - i)]) (fun i (_ : Unit) => [own r (nodesT rows.length sT i).1, lockA l (nodesT rows.length sT i).2, frz v rows]) () trivial en' (by simp) ?_
      rintro i _ j hi -
      refine nf ?_
      refine st ?_
      refine iw ?_ ?_ <;> intro hlt
      · have hnl := nodesT_len rows.length sT i
        have g1 : (nodesT rows.length sT i).1[(2 * ((rows.length : Int) - 1 - i)).toNat]? = some ((nodesT rows.length sT i).1[2 * (rows.length - 1 - i)]?.getD zPair) := by rw [show (2 * ((rows.length : Int) - 1 - i)).toNat = 2 * (rows.length - 1 - i) from by omega, List.getElem?_eq_getElem (by omega)]; rfl
        have g2 : (nodesT rows.length sT i).1[(2 * ((rows.length : Int) - 1 - i) + 1).toNat]? = some ((nodesT rows.length sT i).1[2 * (rows.length - 1 - i) + 1]?.getD zPair) := by rw [show (2 * ((rows.length : Int) - 1 - i) + 1).toNat = 2 * (rows.length - 1 - i) + 1 from by omega, List.getElem?_eq_getElem (by omega)]; rfl
        have fj := nodesT_fit (m := rows.length) ft i
        have e1 : (nodesT rows.length sT (i + 1)).1 = (nodesT rows.length sT i).1.set (rows.length - 1 - i) (nodeSum (nodesT rows.length sT i).2 ((nodesT rows.length sT i).1[2 * (rows.length - 1 - i)]?.getD zPair) ((nodesT rows.length sT i).1[2 * (rows.length - 1 - i) + 1]?.getD zPair)).1 := rfl
        have e2 : (nodesT rows.length sT (i + 1)).2 = (nodeSum (nodesT rows.length sT i).2 ((nodesT rows.length sT i).1[2 * (rows.length - 1 - i)]?.getD zPair) ((nodesT rows.length sT i).1[2 * (rows.length - 1 - i) + 1]?.getD zPair)).2 := rfl
        generalize (nodesT rows.length sT i).1[2 * (rows.length - 1 - i)]?.getD zPair = pa at *
        generalize (nodesT rows.length sT i).1[2 * (rows.length - 1 - i) + 1]?.getD zPair = pb at *
        refine W_shape (xs := (nodesT rows.length sT i).1) sees' fun sh => ?_
        rcases sh with ⟨_, h0⟩ | ⟨b, off, cap, rfl, hcap⟩
        · omega
        refine W_draw [own (.slice (some ⟨b, off, none⟩) (nodesT rows.length sT i).1.length cap) (nodesT rows.length sT i).1] sub' fun ro' hle hb => ?_
        obtain ⟨k1, hb⟩ := Kn.of_big hb
        refine W_mul (by omega) ?_
        refine W_ixE (xs := (nodesT rows.length sT i).1) (x := pa) sees' rfl (by omega) g1 ?_
        refine W_mul (by omega) (W_add (by omega) ?_)
        refine W_ixE (xs := (nodesT rows.length sT i).1) (x := pb) sees' rfl (by omega) g2 ?_
        refine fn (k249 l (nodesT rows.length sT i).2 pa pb (fj.ok (by omega))) fun _ => ?_
        refine W_pu (v := .pointer (some ⟨b, off + (rows.length - 1 - i) * 2, none⟩)) ?_ ?_
        · simp only [Pu.ev]
          rw [if_pos (by omega), Addr.add_eq, show ((rows.length : Int) - 1 - i).toNat = rows.length - 1 - i from by omega]
        refine fi ?_
        intro j
        refine nf ?_
        refine W_stO (xs := (nodesT rows.length sT i).1) (y := (nodeSum (nodesT rows.length sT i).2 pa pb).1) pk' ent_pair rfl (by omega) ?_
        refine W_sub' (by omega) ?_
        refine nf ?_
        refine fi ?_
        refine ⟨(), by omega, trivial, ?_, ?_⟩
        · simp; omega
        · rw [e1, e2]
          exact en'
      · have : i = rows.length - 1 := by omega
        subst this
        refine fi ?_
        intro j
        refine nf ?_
        have e : buildT lk rows = nodesT rows.length sT (rows.length - 1) := by rw [buildT, hst]
        rw [e]
        (first | exact retU | exact retB)
end Go.Lb
