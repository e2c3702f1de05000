/- Contracts: keys, the rest. No statement of the seat is proved in this file. -/
import Derived.Test.YtkblnbbpeakgmaaGreatCI
set_option linter.all false
namespace Go.Lb
open Go.Proofs
attribute [local irreducible] WT blk fzb own frz mp exL isA Ent Tri updE drawE At Kn See SeeS

/-- the first that is so; -1 -/
theorem k332 {ro : HP} {f : Nat} {cap : List Value} {A : Asrt} (v : Value) (xs : List UInt32) (pf : UInt32 → Bool) (hl : xs.length ≤ 2 ^ 40) (hf : en.hb f = true)
    (hc : ∀ e : UInt32, Fn Tryz.prog ro f ([] ++ [val e] ++ cap) [A] fun _ : Unit => (.bool (pf e), [A])) :
    Fn Tryz.prog ro 332 [v, .func (.func f) ⟨[]⟩ ⟨cap⟩] [own v xs, A] fun i : {i : Int // (i = -1 ∧ xs.filter (fun e => !pf e) = xs) ∨ (0 ≤ i ∧ i < xs.length ∧ (∀ e ∈ xs.take i.toNat, pf e = false) ∧ ∃ e, xs[i.toNat]? = some e ∧ pf e = true)} => (.int .i64 i.1, [own v xs, A]) := by
  refine c332 _ _ ?_
  unfold t332
  (repeat' (first | refine st ?_ | (refine iw ?_ ?_ <;> intro h <;> try exact ko) | intro b))
  refine W_loopX xs.length (fun i _ => ∀ e ∈ xs.take i, pf e = false) (fun i _ => [.int .i64 i]) (fun i (_ : Unit) => [own v xs, A]) () (by simp) en' rfl ?_
  rintro i _ j hi hC
  refine nf ?_
  refine st ?_
  refine iw ?_ ?_ <;> intro hlt
  · have hlt : i < xs.length := by omega
    refine st ?_
    refine fnv (hc _) fun _ => ?_
    refine nf ?_
    (repeat' (first | refine st ?_ | (refine iw ?_ ?_ <;> intro h <;> try exact ko) | intro b))
    · refine W_retE ⟨i, .inr ⟨by omega, by omega, by simpa using hC, xs[i], by simp [hlt], h⟩⟩ rfl en'
    · refine fi ?_
      refine ⟨(), by omega, ?_, rfl, en'⟩
      rw [take_succ' hlt]
      intro e he
      rcases List.mem_append.1 he with he | he
      · exact hC e he
      · rw [List.mem_singleton.1 he]; exact h
  · have : i = xs.length := by omega
    subst this
    rw [List.take_length] at hC
    refine fi ?_
    intro j
    refine nf ?_
    refine W_retE ⟨-1, .inl ⟨rfl, List.filter_eq_self.2 fun e he => by rw [hC e he]; rfl⟩⟩ rfl en'
theorem k305 {ro : HP} {f : Nat} {cap : List Value} {A : Asrt} (v : Value) (xs : List UInt32) (pf : UInt32 → Bool) (hl : xs.length ≤ 2 ^ 40) (hf : en.hb f = true)
    (hc : ∀ e : UInt32, Fn Tryz.prog ro f ([] ++ [val e] ++ cap) [A] fun _ : Unit => (.bool (pf e), [A])) :
    Fn Tryz.prog ro 305 [v, .func (.func f) ⟨[]⟩ ⟨cap⟩] [own v xs, A] fun r : Value => (r, [own r (xs.filter fun e => !pf e), A]) := by
  refine c305 _ _ ?_
  unfold t305
  refine fn (k332 v xs pf hl hf hc) fun i => ?_
  obtain ⟨i, hi⟩ := i
  refine nf ?_
  refine st ?_
  refine iw ?_ ?_ <;> intro h
  · rcases hi with ⟨_, hi⟩ | ⟨h0, _⟩
    · rw [hi]
      (first | exact retU | exact retB)
    · omega
  · rcases hi with ⟨hi, _⟩ | ⟨h0, h1, h2, e0, h3, h4⟩
    · omega
    obtain ⟨m, rfl⟩ : ∃ m : Nat, i = m := ⟨i.toNat, by omega⟩
    simp only [Int.toNat_natCast] at h2 h3
    have hm : m < xs.length := by omega
    have hkept : ∀ n, (xs.take n).filter (fun e => !pf e) = (xs.filter fun e => !pf e).take ((xs.take n).filter (fun e => !pf e)).length := by
      intro n
      conv => rhs; rw [← List.take_append_drop n xs, List.filter_append]
      rw [List.take_append_drop, List.take_left' rfl]
    have h5 : (xs.take (m + 1)).filter (fun e => !pf e) = xs.take m := by
      rw [take_succ' hm, List.filter_append, List.filter_eq_self.2 (fun e he => by rw [h2 e he]; rfl)]
      have : xs[m] = e0 := by rw [List.getElem?_eq_getElem hm] at h3; exact Option.some.inj h3
      simp [this, h4]
    (repeat' (first | refine st ?_ | (refine iw ?_ ?_ <;> intro h <;> try exact ko) | intro b))
    refine W_loopX (xs.length - (m + 1)) (fun j (L : List UInt32) => L.length = xs.length ∧ L.drop (m + 1 + j) = xs.drop (m + 1 + j) ∧ ((xs.take (m + 1 + j)).filter (fun e => !pf e)).length ≤ m + j ∧ L.take ((xs.take (m + 1 + j)).filter (fun e => !pf e)).length = (xs.take (m + 1 + j)).filter (fun e => !pf e))
      (fun j _ => [.int .i64 ((xs.take (m + 1 + j)).filter (fun e => !pf e)).length, .int .i64 ((m : Int) + 1 + j)]) (fun j L => [own v L, A]) xs (by
        rw [Nat.add_zero, h5]
        refine ⟨rfl, rfl, ?_, ?_⟩
        · simp; omega
        · simp) en' (by rw [Nat.add_zero, h5, List.length_take, Nat.min_eq_left (by omega)]; simp) ?_
    rintro j L jj hj ⟨c1, c2, c3, c4⟩
    refine nf ?_
    refine st ?_
    refine st ?_
    refine iw ?_ ?_ <;> intro hlt
    · have hlt : m + 1 + j < xs.length := by omega
      have hg : L[((m : Int) + 1 + j).toNat]? = some xs[m + 1 + j] := by
        have := congrArg (fun l => l[0]?) c2
        simp only [List.getElem?_drop, Nat.add_zero] at this
        rw [show ((m : Int) + 1 + j).toNat = m + 1 + j from by omega, this, List.getElem?_eq_getElem hlt]
      refine W_join ?_
      refine W_ixV (x := xs[m + 1 + j]) sees' (by omega) hg ?_
      refine fnv (hc _) fun _ => ?_
      refine nf ?_
      have hsucc : (xs.take (m + 1 + (j + 1))).filter (fun e => !pf e) = (xs.take (m + 1 + j)).filter (fun e => !pf e) ++ (if pf xs[m + 1 + j] then [] else [xs[m + 1 + j]]) := by
        rw [show m + 1 + (j + 1) = m + 1 + j + 1 from by omega, take_succ' hlt, List.filter_append]
        congr 1
        cases hp : pf xs[m + 1 + j] <;> simp [hp]
      generalize hk : (xs.take (m + 1 + j)).filter (fun e => !pf e) = kept at *
      refine st ?_
      refine iw ?_ ?_ <;> intro h
      · rw [h] at hsucc
        simp only [Bool.false_eq_true, if_false] at hsucc
        refine W_ixst (xs := L) (y := xs[m + 1 + j]) pk' ent_val rfl (by omega) (by simp; omega) ?_
        (repeat' (first | refine st ?_ | (refine iw ?_ ?_ <;> intro h <;> try exact ko) | intro b))
        refine fi ?_
        intro jj
        refine nf ?_
        (repeat' (first | refine st ?_ | (refine iw ?_ ?_ <;> intro h <;> try exact ko) | intro b))
        refine fi ?_
        refine ⟨L.set kept.length xs[m + 1 + j], by omega, ⟨by simpa using c1, ?_, ?_, ?_⟩, ?_, ?_⟩
        · rw [List.drop_set_of_lt (by omega)]
          have := congrArg (List.drop 1) c2
          rw [List.drop_drop, List.drop_drop] at this
          exact this
        · rw [hsucc]; simp; omega
        · rw [hsucc]
          simp only [List.length_append, List.length_singleton]
          rw [List.take_succ, List.take_set_of_le (by omega), c4, List.getElem?_set_self (by omega)]
          rfl
        · rw [hsucc]; simp; omega
        · rw [show ((kept.length : Nat) : Int).toNat = kept.length from rfl]
          exact en'
      · rw [h] at hsucc
        simp only [if_true, List.append_nil] at hsucc
        refine fi ?_
        intro jj
        refine nf ?_
        (repeat' (first | refine st ?_ | (refine iw ?_ ?_ <;> intro h <;> try exact ko) | intro b))
        refine fi ?_
        refine ⟨L, by omega, ⟨c1, ?_, ?_, ?_⟩, ?_, en'⟩
        · have := congrArg (List.drop 1) c2
          rw [List.drop_drop, List.drop_drop] at this
          exact this
        · rw [hsucc]; omega
        · rw [hsucc]; exact c4
        · rw [hsucc]; simp; omega
    · have hj' : j = xs.length - (m + 1) := by omega
      have hall : (xs.take (m + 1 + j)) = xs := List.take_of_length_le (by omega)
      rw [hall] at c3 c4
      refine fi ?_
      intro jj
      refine nf ?_
      rw [hall]
      have hle := List.length_filter_le (fun e => !pf e) xs
      refine W_slcP (xs := L) sees' (by omega) fun w hw => ?_
      refine W_clrAt (z := (0 : UInt32)) hw pk' rfl (fun _ => rfl) (by omega) ?_
      refine W_takeO (c := (xs.filter fun e => !pf e).length) pk' rfl (fun cap hcap => by rw [bndV_int (by simp at hcap; omega)]; simp) (by simp; omega) fun u => ?_
      rw [Int.toNat_natCast, List.take_append_of_le_length (by simp; omega), List.take_take, Nat.min_self, c4]
      (first | exact retU | exact retB)
theorem k306 {ro : HP} (b0 b1 : Nat) (e below now : UInt32) : Fn Tryz.prog ro 306 [val e, ptr b0, ptr b1] [big [blk b0 [val below], blk b1 [val now]]] fun _ : Unit => (.bool (decide (e < below) && e != now), [big [blk b0 [val below], blk b1 [val now]]]) := by
  refine c306 _ _ _ ?_
  unfold t306
  refine W_ent (Ent.unfoldb _ _) ?_
  (repeat' (first | refine st ?_ | (refine iw ?_ ?_ <;> intro h <;> try exact ko) | intro b))
  · have h1 : e < below := by rw [UInt32.lt_iff_toNat_lt]; omega
    refine W_retE () ?_ (Ent.foldb [blk b0 [val below], blk b1 [val now]] [])
    simp only [h1, decide_true, Bool.true_and]
    congr 1
    rw [Bool.eq_iff_iff]
    simp only [bne_iff_ne, ne_eq]
    exact not_congr u32_inj
  · have h1 : ¬ e < below := by rw [UInt32.lt_iff_toNat_lt]; omega
    refine W_retE () ?_ (Ent.foldb [blk b0 [val below], blk b1 [val now]] [])
    simp [h1]
def eraseK (w : Pw) (x : Ks) (below : UInt32) : Bool × Pw × Ks := if (spend w).1 then (true, (spend w).2, { x with epochs := x.epochs.filter fun e => !(decide (e < below) && e != lastE x.epochs) }) else (false, (spend w).2, x)
def addK (w : Pw) (x : Ks) : Bool × Pw × Ks := if (spend w).1 then (true, (spend w).2, { x with epochs := x.epochs ++ [lastE x.epochs + 1] }) else (false, (spend w).2, x)
/-- keys.Current, its block only read -/
theorem k54r {ro : HP} (k p : Nat) (v : Value) (x : Ks) (kk : Kn ro (blk k [ptr p, val x.seed, v])) (hl : x.epochs.length ≤ 2 ^ 40) (h0 : x.epochs ≠ []) : Fn Tryz.prog ro 54 [ptr k] [own v x.epochs] fun _ : Unit => (val (lastE x.epochs), [own v x.epochs]) := by
  refine c54 _ ?_
  unfold t54
  (repeat' (first | refine st ?_ | (refine iw ?_ ?_ <;> intro h <;> try exact ko) | intro b))
  refine W_draw [own v x.epochs] sub' fun ro' hle hb => ?_
  obtain ⟨k2, _⟩ := Kn.of_big hb
  have k1 := kk.mono hle
  have hp : 0 < x.epochs.length := List.length_pos_iff.2 h0
  (repeat' (first | refine st ?_ | (refine iw ?_ ?_ <;> intro h <;> try exact ko) | intro b))
  have e : lastE x.epochs = x.epochs[((x.epochs.length : Int) - 1).toNat]'(by omega) := by
    rw [lastE, List.getLast?_eq_getElem?, List.getElem?_eq_getElem (by omega)]
    simp only [Option.getD_some]
    congr 1
    omega
  rw [e]
  refine fi ?_
  intro j
  refine nf ?_
  (first | exact retU | exact retB)
theorem k202 {ro : HP} (k p : Nat) (w : Pw) (x : Ks) (hl : x.epochs.length ≤ 2 ^ 30) (h0 : x.epochs ≠ []) : Fn Tryz.prog ro 202 [ptr k] [keysA k p x, powA p w] fun _ : Unit => (.bool (addK w x).1, [keysA k p (addK w x).2.2, powA p (addK w x).2.1]) := by
  refine c202 _ ?_
  unfold t202
  refine W_exL (X := fun v : Value => [blk k [ptr p, val x.seed, v], own v x.epochs]) pk' fun v => ?_
  refine nf ?_
  (repeat' (first | refine st ?_ | (refine iw ?_ ?_ <;> intro h <;> try exact ko) | intro b))
  refine fn (k110 p w) fun _ => ?_
  refine nf ?_
  (repeat' (first | refine st ?_ | (refine iw ?_ ?_ <;> intro h <;> try exact ko) | intro b))
  · have e : addK w x = (false, (spend w).2, x) := by unfold addK; rw [h]; rfl
    rw [e]
    exact W_retE () rfl ((en' (X := [blk k [ptr p, val x.seed, v], own v x.epochs, powA p (spend w).2])).trans (ent_keys v _))
  · have e : addK w x = (true, (spend w).2, { x with epochs := x.epochs ++ [lastE x.epochs + 1] }) := by unfold addK; rw [h]; rfl
    rw [e]
    refine W_draw [blk k [ptr p, val x.seed, v]] sub' fun ro' hle hb => ?_
    obtain ⟨k1, _⟩ := Kn.of_big hb
    (repeat' (first | refine st ?_ | (refine iw ?_ ?_ <;> intro h <;> try exact ko) | intro b))
    refine fn (k54r k p v x k1 (by omega) h0) fun _ => ?_
    refine nf ?_
    refine W_u32add (b := 1) ?_
    refine W_app1 (xs := x.epochs) (y := lastE x.epochs + 1) pk' ent_val rfl ⟨rfl, by decide, by decide⟩ (by omega) fun v' => ?_
    (refine W_slO (v := v') sees' ?_; rintro a n c rfl)
    refine fi ?_
    intro j
    refine nf ?_
    (repeat' (first | refine st ?_ | (refine iw ?_ ?_ <;> intro h <;> try exact ko) | intro b))
    exact W_retE () rfl ((en' (X := [blk k [ptr p, val x.seed, .slice a n c], own (.slice a n c) (x.epochs ++ [lastE x.epochs + 1]), powA p (spend w).2])).trans (ent_keys (x := { x with epochs := x.epochs ++ [lastE x.epochs + 1] }) _ _))
theorem k263 {ro : HP} (k p : Nat) (w : Pw) (x : Ks) (below : UInt32) (hl : x.epochs.length ≤ 2 ^ 30) (h0 : x.epochs ≠ []) : Fn Tryz.prog ro 263 [ptr k, val below] [keysA k p x, powA p w] fun _ : Unit => (.bool (eraseK w x below).1, [keysA k p (eraseK w x below).2.2, powA p (eraseK w x below).2.1]) := by
  refine c263 _ _ ?_
  unfold t263
  refine st ?_
  intro b0
  refine W_exL (X := fun v : Value => [blk k [ptr p, val x.seed, v], own v x.epochs]) pk' fun v => ?_
  refine nf ?_
  (repeat' (first | refine st ?_ | (refine iw ?_ ?_ <;> intro h <;> try exact ko) | intro b))
  refine fn (k110 p w) fun _ => ?_
  refine nf ?_
  (repeat' (first | refine st ?_ | (refine iw ?_ ?_ <;> intro h <;> try exact ko) | intro b))
  · have e : eraseK w x below = (false, (spend w).2, x) := by unfold eraseK; rw [h]; rfl
    rw [e]
    exact W_retE () rfl ((en' (X := [blk k [ptr p, val x.seed, v], own v x.epochs, powA p (spend w).2])).trans (ent_keys v _))
  · have e : eraseK w x below = (true, (spend w).2, { x with epochs := x.epochs.filter fun e => !(decide (e < below) && e != lastE x.epochs) }) := by unfold eraseK; rw [h]; rfl
    rw [e]
    refine W_ent ((en' (X := [blk k [ptr p, val x.seed, v], own v x.epochs, powA p (spend w).2, blk b0 [val below]])).trans (ent_keys v _)) ?_
    refine fn (k54 k p x (by omega) h0) fun _ => ?_
    refine nf ?_
    (repeat' (first | refine st ?_ | (refine iw ?_ ?_ <;> intro h <;> try exact ko) | intro b))
    refine W_exL (X := fun v : Value => [blk k [ptr p, val x.seed, v], own v x.epochs]) pk' fun v => ?_
    refine nf ?_
    (repeat' (first | refine st ?_ | (refine iw ?_ ?_ <;> intro h <;> try exact ko) | intro b))
    refine W_ent ((en' (X := [blk b0 [val below], blk b [val (lastE x.epochs)]] ++ [blk k [ptr p, val x.seed, v], own v x.epochs, powA p (spend w).2])).trans (Ent.foldb _ _)) ?_
    refine fn (k305 (f := 306) (cap := [ptr b0, ptr b]) (A := big [blk b0 [val below], blk b [val (lastE x.epochs)]]) v x.epochs (fun e => decide (e < below) && e != lastE x.epochs) (by omega) rfl fun e => k306 b0 b e below (lastE x.epochs)) fun r => ?_
    refine nf ?_
    (refine W_slO (v := r) sees' ?_; rintro a n c rfl)
    (repeat' (first | refine st ?_ | (refine iw ?_ ?_ <;> intro h <;> try exact ko) | intro b))
    exact W_retE () rfl ((en' (X := [blk k [ptr p, val x.seed, .slice a n c], own (.slice a n c) (x.epochs.filter fun e => !(decide (e < below) && e != lastE x.epochs)), powA p (spend w).2])).trans (ent_keys (x := { x with epochs := x.epochs.filter fun e => !(decide (e < below) && e != lastE x.epochs) }) _ _))
end Go.Lb
