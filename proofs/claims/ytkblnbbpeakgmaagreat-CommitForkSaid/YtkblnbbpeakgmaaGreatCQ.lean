/- Contracts: leaf.Get, root. No statement of the seat is proved in this file. -/
import Derived.Test.YtkblnbbpeakgmaaGreatCP
set_option linter.all false
namespace Go.Lb
open Go.Proofs
attribute [local irreducible] WT blk fzb own frz mp exL isA Ent Tri updE drawE At Kn See SeeS

def rw32 (b : List UInt8) : List (List UInt8) := [b.take 1, (b.drop 1).take 1, (b.drop 2).take 2, (b.drop 4).take 4, (b.drop 8).take 8, (b.drop 16).take 16]
theorem cut32 (b : List UInt8) : cutG b [1, 1, 2, 4, 8, 16] [] = if b.length = 32 then (rw32 b, true) else ([], false) := by
  split
  · rename_i h
    simp [cutG_cons, cutG_nil, h, List.drop_drop, rw32]
  · rename_i h
    simp only [cutG_cons, cutG_nil, List.length_drop, List.drop_drop]
    repeat' split
    all_goals first | rfl | (exfalso; simp at *; omega)
def leafKind (b : List UInt8) : Int := IntKind.i64.wrap (getB (b.take 1)).1.toNat
def parseLeaf (b : List UInt8) (slot : Int) : Leaf :=
  ⟨leafKind b, ((getB ((b.drop 1).take 1)).1.toNat : Int) == 1, IntKind.i64.wrap (getB ((b.drop 2).take 2)).1.toNat,
    ⟨(getB ((b.drop 4).take 4)).1.toUInt32, if leafKind b = 1 then UInt32.ofInt slot else 0, (getB ((b.drop 8).take 8)).1⟩, (pairB ((b.drop 16).take 16)).1⟩
def getLeaf (b : List UInt8) (slot : Int) : Leaf × Bool :=
  if b.length = 32 then (if (putLeaf (parseLeaf b slot) slot).2 = true ∧ (putLeaf (parseLeaf b slot) slot).1 = b then (parseLeaf b slot, true) else (zLeaf, false)) else (zLeaf, false)
theorem k186 {ro : HP} (v : Value) (bs : List UInt8) (slot : Int) (hl : bs.length ≤ 2 ^ 30) : Fn Tryz.prog ro 186 [v, .int .i64 slot] [frz v bs] fun _ : Unit => (.tuple ⟨[agg (getLeaf bs slot).1, .bool (getLeaf bs slot).2]⟩, [frz v bs]) := by
  refine c186 _ _ ?_
  unfold t186
  refine st ?_
  intro b0
  refine W_bslS (ys := ([1, 1, 2, 4, 8, 16] : List Int)) (l := [.int .i64 1, .int .i64 1, .int .i64 2, .int .i64 4, .int .i64 8, .int .i64 16]) rfl rfl rfl ⟨by omega, rfl⟩ (ent_triv (reps_sc.2 rfl)) fun u => ?_
  refine fn (k257 v u bs [1, 1, 2, 4, 8, 16] hl (by decide)) fun r => ?_
  rw [cut32]
  by_cases hb : bs.length = 32
  · rw [if_pos hb]
    refine nf ?_
    refine st ?_
    refine st ?_
    refine st ?_
    refine st ?_
    refine st ?_
    intro b1
    refine st ?_
    intro b2
    refine W_loopX 5 (fun _ _ => True) (fun i _ => [.int .i64 i]) (fun i (_ : Unit) => [blk b2 (fillTo 5 (fun k => val (getB ((rw32 bs)[k]?.getD [])).1) (.int .u64 0) i), own r (rw32 bs), frz v bs, blk b0 (Enc.enc zLeaf), blk b1 (Enc.enc zLeaf)]) () trivial en' rfl ?_
    rintro i _ j hi -
    refine nf ?_
    refine st ?_
    refine iw ?_ ?_ <;> intro hlt
    · have hlt : i < 5 := by omega
      have hx : (rw32 bs)[(i : Int).toNat]? = some ((rw32 bs)[i]?.getD []) := by
        rw [Int.toNat_natCast, List.getElem?_eq_getElem (show i < (rw32 bs).length from by show i < 6; omega)]; rfl
      refine W_ixF (xs := rw32 bs) sees' (by omega) hx fun w => ?_
      refine fn (k258 w _) fun _ => ?_
      refine nf ?_
      (repeat' (first | refine st ?_ | (refine iw ?_ ?_ <;> intro h <;> try exact ko) | intro b))
      have hfl : 0 + (i : Int).toNat * 1 < (fillTo 5 (fun k => val (getB ((rw32 bs)[k]?.getD [])).1) (.int .u64 0) i).length := by rw [fillTo_len]; omega
      refine W_st1 pk' rfl hfl ?_
      rw [show 0 + (i : Int).toNat * 1 = i from by omega, fillTo_set (f := fun k => val (getB ((rw32 bs)[k]?.getD [])).1)]
      (repeat' (first | refine st ?_ | (refine iw ?_ ?_ <;> intro h <;> try exact ko) | intro b))
      refine fi ?_
      exact ⟨(), by omega, trivial, rfl, en'⟩
    · have : i = 5 := by omega
      subst this
      rw [fillTo_all]
      refine fi ?_
      intro j
      refine nf ?_
      refine W_to [blk b2 [val (getB (bs.take 1)).1, val (getB ((bs.drop 1).take 1)).1, val (getB ((bs.drop 2).take 2)).1, val (getB ((bs.drop 4).take 4)).1, val (getB ((bs.drop 8).take 8)).1], own r (rw32 bs), frz v bs, blk b0 (Enc.enc zLeaf), blk b1 (Enc.enc zLeaf)] ?_
      refine W_draw [blk b2 [val (getB (bs.take 1)).1, val (getB ((bs.drop 1).take 1)).1, val (getB ((bs.drop 2).take 2)).1, val (getB ((bs.drop 4).take 4)).1, val (getB ((bs.drop 8).take 8)).1]] sub' fun ro' hle hb' => ?_
      obtain ⟨k1, _⟩ := Kn.of_big hb'
      (repeat' (first | refine st ?_ | (refine iw ?_ ?_ <;> intro h <;> try exact ko) | intro b))
      refine fi ?_
      intro j
      refine nf ?_
      refine W_to [blk b1 [val (leafKind bs), .bool (((getB ((bs.drop 1).take 1)).1.toNat : Int) == 1), .int .i64 0, .int .u32 0, .int .u32 0, .int .u64 0, .int .u64 0, .int .u64 0], blk b2 [val (getB (bs.take 1)).1, val (getB ((bs.drop 1).take 1)).1, val (getB ((bs.drop 2).take 2)).1, val (getB ((bs.drop 4).take 4)).1, val (getB ((bs.drop 8).take 8)).1], own r (rw32 bs), frz v bs, blk b0 (Enc.enc zLeaf)] ?_
      (repeat' (first | refine st ?_ | (refine iw ?_ ?_ <;> intro h <;> try exact ko) | intro b))
      all_goals
        refine W_draw [blk b2 [val (getB (bs.take 1)).1, val (getB ((bs.drop 1).take 1)).1, val (getB ((bs.drop 2).take 2)).1, val (getB ((bs.drop 4).take 4)).1, val (getB ((bs.drop 8).take 8)).1]] sub' fun ro' hle hb' => ?_
        obtain ⟨k1, _⟩ := Kn.of_big hb'
        (repeat' (first | refine st ?_ | (refine iw ?_ ?_ <;> intro h <;> try exact ko) | intro b))
        refine fi ?_
        intro j
        refine nf ?_
        (repeat' (first | refine st ?_ | (refine iw ?_ ?_ <;> intro h <;> try exact ko) | intro b))
      · skip
        refine W_ixF (xs := rw32 bs) (x := (bs.drop 16).take 16) sees' (by omega) rfl fun w => ?_
        refine fn (k242 w ((bs.drop 16).take 16)) fun _ => ?_
        (repeat' (first | refine st ?_ | (refine iw ?_ ?_ <;> intro h <;> try exact ko) | intro b))
        have ep : parseLeaf bs slot = ⟨leafKind bs, ((getB ((bs.drop 1).take 1)).1.toNat : Int) == 1, IntKind.i64.wrap (getB ((bs.drop 2).take 2)).1.toNat, ⟨(getB ((bs.drop 4).take 4)).1.toUInt32, UInt32.ofInt slot, (getB ((bs.drop 8).take 8)).1⟩, (pairB ((bs.drop 16).take 16)).1⟩ := by unfold parseLeaf; rw [if_pos h]
        refine fn (k172 ⟨leafKind bs, ((getB ((bs.drop 1).take 1)).1.toNat : Int) == 1, IntKind.i64.wrap (getB ((bs.drop 2).take 2)).1.toNat, ⟨(getB ((bs.drop 4).take 4)).1.toUInt32, UInt32.ofInt slot, (getB ((bs.drop 8).take 8)).1⟩, (pairB ((bs.drop 16).take 16)).1⟩ slot) fun r2 => ?_
        rw [← ep]
        refine nf ?_
        refine st ?_
        refine st ?_
        refine st ?_
        refine iw ?_ ?_ <;> intro h2
        · (repeat' (first | refine st ?_ | (refine iw ?_ ?_ <;> intro h <;> try exact ko) | intro b))
          have e : getLeaf bs slot = (zLeaf, false) := by unfold getLeaf; rw [if_pos hb, if_neg (by simp [h2])]
          rw [e]
          (first | exact retU | exact retB)
        · refine fn (k118 (v := r2) (u := v) (xs := (putLeaf (parseLeaf bs slot) slot).1) (ys := bs)) fun _ => ?_
          refine nf ?_
          refine st ?_
          refine iw ?_ ?_ <;> intro h3
          · (repeat' (first | refine st ?_ | (refine iw ?_ ?_ <;> intro h <;> try exact ko) | intro b))
            have e : getLeaf bs slot = (zLeaf, false) := by unfold getLeaf; rw [if_pos hb, if_neg (by rintro ⟨_, h4⟩; rw [h4] at h3; simp at h3)]
            rw [e]
            (first | exact retU | exact retB)
          · (repeat' (first | refine st ?_ | (refine iw ?_ ?_ <;> intro h <;> try exact ko) | intro b))
            have e : getLeaf bs slot = (parseLeaf bs slot, true) := by unfold getLeaf; rw [if_pos hb, if_pos ⟨h2, by simpa using h3⟩]
            rw [e, ep]
            (first | exact retU | exact retB)
      · skip
        refine W_ixF (xs := rw32 bs) (x := (bs.drop 16).take 16) sees' (by omega) rfl fun w => ?_
        refine fn (k242 w ((bs.drop 16).take 16)) fun _ => ?_
        (repeat' (first | refine st ?_ | (refine iw ?_ ?_ <;> intro h <;> try exact ko) | intro b))
        have ep : parseLeaf bs slot = ⟨leafKind bs, ((getB ((bs.drop 1).take 1)).1.toNat : Int) == 1, IntKind.i64.wrap (getB ((bs.drop 2).take 2)).1.toNat, ⟨(getB ((bs.drop 4).take 4)).1.toUInt32, 0, (getB ((bs.drop 8).take 8)).1⟩, (pairB ((bs.drop 16).take 16)).1⟩ := by unfold parseLeaf; rw [if_neg h]
        refine fn (k172 ⟨leafKind bs, ((getB ((bs.drop 1).take 1)).1.toNat : Int) == 1, IntKind.i64.wrap (getB ((bs.drop 2).take 2)).1.toNat, ⟨(getB ((bs.drop 4).take 4)).1.toUInt32, 0, (getB ((bs.drop 8).take 8)).1⟩, (pairB ((bs.drop 16).take 16)).1⟩ slot) fun r2 => ?_
        rw [← ep]
        refine nf ?_
        refine st ?_
        refine st ?_
        refine st ?_
        refine iw ?_ ?_ <;> intro h2
        · (repeat' (first | refine st ?_ | (refine iw ?_ ?_ <;> intro h <;> try exact ko) | intro b))
          have e : getLeaf bs slot = (zLeaf, false) := by unfold getLeaf; rw [if_pos hb, if_neg (by simp [h2])]
          rw [e]
          (first | exact retU | exact retB)
        · refine fn (k118 (v := r2) (u := v) (xs := (putLeaf (parseLeaf bs slot) slot).1) (ys := bs)) fun _ => ?_
          refine nf ?_
          refine st ?_
          refine iw ?_ ?_ <;> intro h3
          · (repeat' (first | refine st ?_ | (refine iw ?_ ?_ <;> intro h <;> try exact ko) | intro b))
            have e : getLeaf bs slot = (zLeaf, false) := by unfold getLeaf; rw [if_pos hb, if_neg (by rintro ⟨_, h4⟩; rw [h4] at h3; simp at h3)]
            rw [e]
            (first | exact retU | exact retB)
          · (repeat' (first | refine st ?_ | (refine iw ?_ ?_ <;> intro h <;> try exact ko) | intro b))
            have e : getLeaf bs slot = (parseLeaf bs slot, true) := by unfold getLeaf; rw [if_pos hb, if_pos ⟨h2, by simpa using h3⟩]
            rw [e, ep]
            (first | exact retU | exact retB)
  · rw [if_neg hb]
    have e : getLeaf bs slot = (zLeaf, false) := by unfold getLeaf; rw [if_neg hb]
    rw [e]
    refine nf ?_
    (repeat' (first | refine st ?_ | (refine iw ?_ ?_ <;> intro h <;> try exact ko) | intro b))
    (first | exact retU | exact retB)
end Go.Lb
