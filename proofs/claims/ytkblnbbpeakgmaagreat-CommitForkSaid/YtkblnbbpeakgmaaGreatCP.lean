/- Contracts: wire.Cut, leaf. No statement of the seat is proved in this file. -/
import Derived.Test.YtkblnbbpeakgmaaGreatCO
set_option linter.all false
namespace Go.Lb
open Go.Proofs
attribute [local irreducible] WT blk fzb own frz mp exL isA Ent Tri updE drawE At Kn See SeeS

@[irreducible] def cutG : List UInt8 → List Int → List (List UInt8) → List (List UInt8) × Bool
  | b, [], acc => if 0 < b.length then ([], false) else (acc, true)
  | b, n :: l, acc => if n < 0 ∨ n > b.length then ([], false) else cutG (b.drop n.toNat) l (acc ++ [b.take n.toNat])
theorem cutG_nil {b : List UInt8} {acc : List (List UInt8)} : cutG b [] acc = if 0 < b.length then ([], false) else (acc, true) := by rw [cutG]
theorem cutG_cons {b : List UInt8} {n : Int} {l : List Int} {acc : List (List UInt8)} : cutG b (n :: l) acc = if n < 0 ∨ n > b.length then ([], false) else cutG (b.drop n.toNat) l (acc ++ [b.take n.toNat]) := by rw [cutG]
theorem k257 {ro : HP} (v u : Value) (b : List UInt8) (sizes : List Int) (hl : b.length ≤ 2 ^ 30) (hs : sizes.length ≤ 2 ^ 30) :
    Fn Tryz.prog ro 257 [v, u] [frz v b, own u sizes] fun r : Value => (.tuple ⟨[r, .bool (cutG b sizes []).2]⟩, [own r (cutG b sizes []).1, frz v b, own u sizes]) := by
  refine c257 _ _ ?_
  unfold t257
  refine W_bslS (ys := ([] : List (List UInt8))) rfl rfl rfl ⟨by omega, rfl⟩ (ent_triv rfl) fun x0 => ?_
  refine W_len (xs := sizes) sees' ?_
  refine W_loopX sizes.length (fun i (q : Value × Value × List UInt8 × List (List UInt8)) => q.2.2.1.length ≤ 2 ^ 30 ∧ q.2.2.2.length = i ∧ cutG b sizes [] = cutG q.2.2.1 (sizes.drop i) q.2.2.2) (fun i q => [q.1, q.2.1, .int .i64 i]) (fun i q => [frz q.1 q.2.2.1, own q.2.1 q.2.2.2, frz v b, own u sizes]) (v, x0, b, []) ⟨hl, rfl, rfl⟩ ?_ rfl ?_
  · exact (Pick.dup (A := frz v b) pk' (frz_dup _ _)).trans en'
  rintro i ⟨bv, rv, bi, acc⟩ j hi ⟨hbl, hal, hcut⟩
  simp only at hbl hal hcut
  refine nf ?_
  refine st ?_
  refine iw ?_ ?_ <;> intro hlt
  · have hlt : i < sizes.length := by omega
    rw [List.drop_eq_getElem_cons hlt, cutG_cons] at hcut
    (repeat' (first | refine st ?_ | (refine iw ?_ ?_ <;> intro h <;> try exact ko) | intro b))
    · rw [hcut, if_pos (by left; assumption)]
      exact W_retE _ rfl (ent_ownNil.trans en')
    · rw [hcut, if_pos (by right; assumption)]
      exact W_retE _ rfl (ent_ownNil.trans en')
    · rw [if_neg (by omega)] at hcut
      refine W_slcF (c := sizes[i].toNat) (a := 0) (xs := bi) mem' rfl (fun cap h => by show bndV (some (.int .i64 sizes[i])) cap bi.length = _; rw [bndV_int (by omega)]) rfl (by omega) (by omega) fun w => ?_
      refine fn (k111F (v := w) (xs := List.drop 0 (List.take sizes[i].toNat bi)) (by rw [List.drop_zero, List.length_take]; omega)) fun r => ?_
      refine nf ?_
      refine W_frzS (v := r) pk' ?_
      refine W_app1 (xs := acc) (y := bi.take sizes[i].toNat) pk' (ent_frz mem') rfl ⟨rfl, by decide, by decide⟩ (by omega) fun rv' => ?_
      refine W_slcF (c := bi.length) (a := sizes[i].toNat) (xs := bi) mem' rfl (fun cap h => rfl) (by show bndV (some (.int .i64 sizes[i])) bi.length 0 = _; rw [bndV_int (by omega)]) (by omega) (by omega) fun w' => ?_
      (repeat' (first | refine st ?_ | (refine iw ?_ ?_ <;> intro h <;> try exact ko) | intro b))
      refine fi ?_
      refine ⟨(w', rv', bi.drop sizes[i].toNat, acc ++ [bi.take sizes[i].toNat]), by omega, ⟨by simp; omega, by simp [hal], hcut⟩, rfl, ?_⟩
      rw [List.take_length]
      exact en'
  · have : i = sizes.length := by omega
    subst this
    rw [List.drop_length, cutG_nil] at hcut
    refine fi ?_
    intro j
    refine nf ?_
    (repeat' (first | refine st ?_ | (refine iw ?_ ?_ <;> intro h <;> try exact ko) | intro b))
    · rw [hcut, if_pos (by omega)]
      exact W_retE _ rfl (ent_ownNil.trans en')
    · rw [hcut, if_neg (by omega)]
      exact W_retE rv rfl en'

/-! ### rows -/
section
variable {P : Program} {hb : Nat → Bool} {d : Bool} {ro : HP} {S : List Asrt} {R : Value → List Asrt → Prop} {Ev : Nat → List Value → List Asrt → Prop}
theorem ent_rowc {u : Value} {y : List UInt8} {us : List Value} {ys : List (List UInt8)} (m : Mem (frz u y) S) : Ent (repsA ys us :: S) (repsA (y :: ys) (u :: us) :: S) := by
  obtain ⟨_, p⟩ := m.pick
  refine (Ent.cons _ (p.dup (frz_dup _ _))).trans ?_
  refine star_two (fun h _ _ a b => ?_) (fun l r => repsA_mono l r) (fun l r => frz_mono l r)
  with_unfolding_all exact ⟨[u], us, rfl, ⟨u, rfl, b⟩, a⟩
theorem ent_row0 : Ent S (repsA ([] : List (List UInt8)) [] :: S) := ent_triv rfl
end
/-! ### leaf -/
def isLeaf (l : Leaf) (slot : Int) : Bool :=
  if slot < 0 ∨ 16 ≤ slot then false else
  if l.kind = 0 then decide (l = zLeaf) else
  if l.kind = 2 then decide (isLba l.lba) && decide (l = ⟨2, true, l.lba, zNonce, zPair⟩) else
  if l.kind = 1 then decide (isLba l.lba) && (decide (l.n.sl = UInt32.ofInt slot) && decide (0 < l.n.ep)) else false
theorem k233 {ro : HP} (lba : Int) : Fn Tryz.prog ro 233 [.int .i64 lba] [] fun _ : Unit => (.bool (decide (isLba lba)), []) := by
  refine c233 _ ?_
  unfold t233
  (repeat' (first | refine st ?_ | (refine iw ?_ ?_ <;> intro h <;> try exact ko) | intro b))
  · exact W_retF () (by congr 1; rw [Bool.eq_iff_iff]; simp only [decide_eq_true_eq, isLba]; omega) sub'
  · exact W_retF () (by congr 1; rw [Bool.eq_iff_iff]; simp only [decide_eq_true_eq, isLba, Bool.false_eq_true, false_iff]; omega) sub'
theorem k158 {ro : HP} (l : Leaf) (slot : Int) : Fn Tryz.prog ro 158 [agg l, .int .i64 slot] [] fun _ : Unit => (.bool (isLeaf l slot), []) := by
  refine c158 _ _ ?_
  unfold t158
  (repeat' (first | refine st ?_ | (refine iw ?_ ?_ <;> intro h <;> try exact ko) | intro b))
  · have e : isLeaf l slot = false := by unfold isLeaf; rw [if_pos (by omega)]
    rw [e]; (first | exact retU | exact retB)
  · have e : isLeaf l slot = false := by unfold isLeaf; rw [if_pos (by omega)]
    rw [e]; (first | exact retU | exact retB)
  · have e : isLeaf l slot = decide (l = zLeaf) := by unfold isLeaf; rw [if_neg (by omega), if_pos h]
    rw [e]; (first | exact retU | exact retB)
  · refine fn (k233 l.lba) fun _ => ?_
    refine nf ?_
    (repeat' (first | refine st ?_ | (refine iw ?_ ?_ <;> intro h <;> try exact ko) | intro b))
    · have e : isLeaf l slot = decide (l = ⟨2, true, l.lba, zNonce, zPair⟩) := by unfold isLeaf; rw [if_neg (by omega), if_neg (by omega), if_pos (by assumption)]; simp [h]
      rw [e]; (first | exact retU | exact retB)
    · have e : isLeaf l slot = false := by unfold isLeaf; rw [if_neg (by omega), if_neg (by omega), if_pos (by assumption)]; simp [h]
      rw [e]; (first | exact retU | exact retB)
  · refine fn (k233 l.lba) fun _ => ?_
    refine nf ?_
    (repeat' (first | refine st ?_ | (refine iw ?_ ?_ <;> intro h <;> try exact ko) | intro b))
    · have h1 : isLba l.lba := by assumption
      have h2 : l.n.sl = UInt32.ofInt slot := u32_inj.1 h
      have e : isLeaf l slot = decide (0 < l.n.ep) := by unfold isLeaf; rw [if_neg (by omega), if_neg (by omega), if_neg (by omega), if_pos (by omega)]; simp [h1, h2]
      rw [e]
      exact W_retF () (by congr 1; rw [Bool.eq_iff_iff]; simp only [decide_eq_true_eq]; rw [UInt32.lt_iff_toNat_lt]; simp) sub'
    · have h2 : ¬ l.n.sl = UInt32.ofInt slot := fun h' => h (u32_inj.2 h')
      have e : isLeaf l slot = false := by unfold isLeaf; rw [if_neg (by omega), if_neg (by omega), if_neg (by omega), if_pos (by omega)]; simp [h2]
      rw [e]; (first | exact retU | exact retB)
    · have e : isLeaf l slot = false := by unfold isLeaf; rw [if_neg (by omega), if_neg (by omega), if_neg (by omega), if_pos (by omega)]; simp only [h]; simp
      rw [e]; (first | exact retU | exact retB)
  · have e : isLeaf l slot = false := by unfold isLeaf; rw [if_neg (by omega), if_neg (by omega), if_neg (by omega), if_neg (by omega)]
    rw [e]; (first | exact retU | exact retB)
@[irreducible] def leafBytes (l : Leaf) : List UInt8 := putB (UInt64.ofInt l.kind) 1 ++ (putB (if l.dirty then 1 else 0) 1 ++ (putB (UInt64.ofInt l.lba) 2 ++ (putB l.n.ep.toUInt64 4 ++ (putB l.n.ver 8 ++ bytesB l.tag))))
def putLeaf (l : Leaf) (slot : Int) : List UInt8 × Bool := if isLeaf l slot then (leafBytes l, true) else ([], false)
theorem leafBytes_len (l : Leaf) : (leafBytes l).length = 32 := by
  rw [leafBytes, bytesB]
  simp [putB_len]
theorem k172 {ro : HP} (l : Leaf) (slot : Int) : Fn Tryz.prog ro 172 [agg l, .int .i64 slot] [] fun r : Value => (.tuple ⟨[r, .bool (putLeaf l slot).2]⟩, [frz r (putLeaf l slot).1]) := by
  refine c172 _ _ ?_
  unfold t172
  (repeat' (first | refine st ?_ | (refine iw ?_ ?_ <;> intro h <;> try exact ko) | intro b))
  refine fn (k158 l slot) fun _ => ?_
  refine nf ?_
  (repeat' (first | refine st ?_ | (refine iw ?_ ?_ <;> intro h <;> try exact ko) | intro b))
  · have e : putLeaf l slot = ([], false) := by unfold putLeaf; rw [h]; rfl
    rw [e]
    exact W_retE _ rfl (ent_frzNil.trans en')
  all_goals
    have e : putLeaf l slot = (leafBytes l, true) := by unfold putLeaf; rw [if_pos (by assumption)]
    rw [e]
    refine W_draw [blk b (Enc.enc l)] sub' fun ro' hle hb => ?_
    obtain ⟨k1, _⟩ := Kn.of_big hb
    (repeat' (first | refine st ?_ | (refine iw ?_ ?_ <;> intro h <;> try exact ko) | intro b))
    refine fn (k240 (UInt64.ofInt l.kind) 1) fun r1 => ?_
    refine nf ?_
    first | (refine fn (k240 1 1) fun r2 => ?_) | (refine fn (k240 0 1) fun r2 => ?_)
    (repeat' (first | refine st ?_ | (refine iw ?_ ?_ <;> intro h <;> try exact ko) | intro b))
    refine fn (k240 (UInt64.ofInt l.lba) 2) fun r3 => ?_
    (repeat' (first | refine st ?_ | (refine iw ?_ ?_ <;> intro h <;> try exact ko) | intro b))
    refine fn (k240 l.n.ep.toUInt64 4) fun r4 => ?_
    (repeat' (first | refine st ?_ | (refine iw ?_ ?_ <;> intro h <;> try exact ko) | intro b))
    refine fn (k240 l.n.ver 8) fun r5 => ?_
    (repeat' (first | refine st ?_ | (refine iw ?_ ?_ <;> intro h <;> try exact ko) | intro b))
    refine fn (k174 l.tag) fun r6 => ?_
    refine nf ?_
    refine W_frzS (v := r1) pk' ?_
    refine W_frzS (v := r2) pk' ?_
    refine W_frzS (v := r3) pk' ?_
    refine W_frzS (v := r4) pk' ?_
    refine W_frzS (v := r5) pk' ?_
    refine W_frzS (v := r6) pk' ?_
    refine W_slO (v := r1) sees' ?_
    rintro a1 n1 c1 rfl
    refine W_slO (v := r2) sees' ?_
    rintro a2 n2 c2 rfl
    refine W_slO (v := r3) sees' ?_
    rintro a3 n3 c3 rfl
    refine W_slO (v := r4) sees' ?_
    rintro a4 n4 c4 rfl
    refine W_slO (v := r5) sees' ?_
    rintro a5 n5 c5 rfl
    refine W_slO (v := r6) sees' ?_
    rintro a6 n6 c6 rfl
    refine W_bslS (ys := [putB (UInt64.ofInt l.kind) 1, putB (if l.dirty then 1 else 0) 1, putB (UInt64.ofInt l.lba) 2, putB l.n.ep.toUInt64 4, putB l.n.ver 8, bytesB l.tag]) (l := [.slice a1 n1 c1, .slice a2 n2 c2, .slice a3 n3 c3, .slice a4 n4 c4, .slice a5 n5 c5, .slice a6 n6 c6]) rfl rfl rfl ⟨by omega, rfl⟩ (by
      simp only [*, if_true, if_false, Bool.false_eq_true]
      exact ent_row0.trans ((ent_rowc mem').trans ((ent_rowc mem').trans ((ent_rowc mem').trans ((ent_rowc mem').trans ((ent_rowc mem').trans (ent_rowc mem'))))))) fun v => ?_
    refine W_frzS (v := v) pk' ?_
    have hfl : [putB (UInt64.ofInt l.kind) 1, putB (if l.dirty then 1 else 0) 1, putB (UInt64.ofInt l.lba) 2, putB l.n.ep.toUInt64 4, putB l.n.ver 8, bytesB l.tag].flatten = leafBytes l := by rw [leafBytes]; simp
    have hlen := leafBytes_len l
    refine fn (k239 v _ (by rw [hfl, hlen]; decide) (by simp)) fun r => ?_
    rw [hfl]
    refine nf ?_
    refine W_frzS (v := r) pk' ?_
    refine fi ?_
    intro j
    refine nf ?_
    (first | exact retU | exact retB)
end Go.Lb
