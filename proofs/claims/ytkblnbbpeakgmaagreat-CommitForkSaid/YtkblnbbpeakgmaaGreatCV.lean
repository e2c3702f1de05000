/- Contracts: log. No statement of the seat is proved in this file. -/
import Derived.Test.YtkblnbbpeakgmaaGreatCU
set_option linter.all false
namespace Go.Lb
open Go.Proofs
attribute [local irreducible] WT blk fzb own frz mp exL isA Ent Tri updE drawE At Kn See SeeS

def placeOf (slots : Int) (c : UInt64) : Int := gRec slots ((c.toNat : Int) % 2)
theorem k183 {ro : HP} (w : Nat) (ad : Ad) (slots : Int) (c : UInt64) (kk : Kn ro (fzb w [.int .i64 slots, ptr ad.p, ptr ad.s, ptr ad.d, ptr ad.c, ptr ad.k, ptr ad.l])) : Fn Tryz.prog ro 183 [ptr w, val c] [] fun _ : Unit => (.int .i64 (placeOf slots c), []) := by
  refine c183 _ _ ?_
  unfold t183
  (repeat' (first | refine st ?_ | (refine iw ?_ ?_ <;> intro h <;> try exact ko) | intro b))
  rw [i64_wrap (n := (c.toNat : Int) % 2) (by omega)]
  refine fn (k170 slots ((c.toNat : Int) % 2)) fun _ => ?_
  refine nf ?_
  (first | exact retU | exact retB)
def logPut (W : Wd) (M : Mkr) (r : Root) : Int × Wd × Mkr :=
  if isG r.slots ∧ r.slots = W.slots then
    if (nextN M (keyW W.ks).1 65535).2.1 = 0 then
      if (writeS W.pw W.sd (placeOf W.slots r.count) (putRec (nextN M (keyW W.ks).1 65535).1 (sealL W.lk (keyW W.ks).2 (nextN M (keyW W.ks).1 65535).1 [] (rootBytes r)).1.1).1).1 = true then
        (0, { W with lk := (sealL W.lk (keyW W.ks).2 (nextN M (keyW W.ks).1 65535).1 [] (rootBytes r)).2,
                     pw := (writeS W.pw W.sd (placeOf W.slots r.count) (putRec (nextN M (keyW W.ks).1 65535).1 (sealL W.lk (keyW W.ks).2 (nextN M (keyW W.ks).1 65535).1 [] (rootBytes r)).1.1).1).2.1,
                     sd := (writeS W.pw W.sd (placeOf W.slots r.count) (putRec (nextN M (keyW W.ks).1 65535).1 (sealL W.lk (keyW W.ks).2 (nextN M (keyW W.ks).1 65535).1 [] (rootBytes r)).1.1).1).2.2 }, (nextN M (keyW W.ks).1 65535).2.2)
      else
        (7, { W with lk := (sealL W.lk (keyW W.ks).2 (nextN M (keyW W.ks).1 65535).1 [] (rootBytes r)).2,
                     pw := (writeS W.pw W.sd (placeOf W.slots r.count) (putRec (nextN M (keyW W.ks).1 65535).1 (sealL W.lk (keyW W.ks).2 (nextN M (keyW W.ks).1 65535).1 [] (rootBytes r)).1.1).1).2.1,
                     sd := (writeS W.pw W.sd (placeOf W.slots r.count) (putRec (nextN M (keyW W.ks).1 65535).1 (sealL W.lk (keyW W.ks).2 (nextN M (keyW W.ks).1 65535).1 [] (rootBytes r)).1.1).1).2.2 }, (nextN M (keyW W.ks).1 65535).2.2)
    else ((nextN M (keyW W.ks).1 65535).2.1, W, (nextN M (keyW W.ks).1 65535).2.2)
  else (1, W, M)
theorem logPut_fit {W : Wd} {n : Nat} (h : fitW W n) (M : Mkr) (r : Root) : fitW (logPut W M r).2.1 (n + 1) := by
  unfold logPut
  split
  · split
    · split
      all_goals exact ⟨h.sl, writeS_fit h.sd _ _ _, h.dk.mono (by omega), ⟨Nat.le_succ_of_le h.ks.1, h.ks.2⟩, h.lk.sea _ _ _ _⟩
    · exact h.mono (by omega)
  · exact h.mono (by omega)
def okM (M : Mkr) : Prop := 0 ≤ M.n ∧ M.n ≤ 100
theorem nextN_ok {M : Mkr} (h : okM M) (ep : UInt32) (slot : Int) : okM (nextN M ep slot).2.2 := by
  unfold okM at *
  unfold nextN
  split
  · exact h
  · split
    · exact h
    · show 0 ≤ M.n + 1 ∧ M.n + 1 ≤ 100
      omega
theorem logPut_ok {W : Wd} {M : Mkr} (h : okM M) (r : Root) : okM (logPut W M r).2.2 := by
  unfold logPut
  split
  · split
    · split <;> exact nextN_ok h _ _
    · exact nextN_ok h _ _
  · exact h
theorem k102 {ro : HP} (w : Nat) (ad : Ad) (W : Wd) (n : Nat) (m : Nat) (M : Mkr) (r : Root) (fit : fitW W n) (hn : n ≤ 2 ^ 28) (hM : okM M) :
    Fn Tryz.prog ro 102 [ptr w, ptr m, agg r] (mkA m M :: wldL w ad W) fun _ : Unit => (.int .i64 (logPut W M r).1, mkA m (logPut W M r).2.2 :: wldL w ad (logPut W M r).2.1) := by
  refine c102 _ _ _ ?_
  unfold t102
  refine st ?_
  intro b0
  refine st ?_
  refine fn (k178 r) fun u => ?_
  refine W_ent (Pick.dup (A := fzb w [.int .i64 W.slots, ptr ad.p, ptr ad.s, ptr ad.d, ptr ad.c, ptr ad.k, ptr ad.l]) pk' (fzb_dup _ _)) ?_
  refine nf ?_
  refine st ?_
  refine st ?_
  have tail : ¬ (isG r.slots ∧ r.slots = W.slots) → logPut W M r = (1, W, M) := fun h => by unfold logPut; rw [if_neg h]
  refine W_draw [blk b0 (Enc.enc r), fzb w [.int .i64 W.slots, ptr ad.p, ptr ad.s, ptr ad.d, ptr ad.c, ptr ad.k, ptr ad.l]] sub' fun ro' hle hb => ?_
  obtain ⟨k1, hb⟩ := Kn.of_big hb
  obtain ⟨k2, hb⟩ := Kn.of_big hb
  (repeat' (first | refine st ?_ | (refine iw ?_ ?_ <;> intro h <;> try exact ko) | intro b))
  · have hg : ¬ isG r.slots := by
      intro hh; unfold putRoot at h; rw [if_pos hh] at h; cases h
    refine fi ?_
    intro j
    (repeat' (first | refine st ?_ | (refine iw ?_ ?_ <;> intro h <;> try exact ko) | intro b))
    rw [tail fun h => hg h.1]
    (first | exact retU | exact retB)
  have hg : isG r.slots := by
    cases Decidable.em (isG r.slots) with
    | inl hh => exact hh
    | inr hh => unfold putRoot at h; rw [if_neg hh] at h; cases h
  have ep : putRoot r = (rootBytes r, true) := by unfold putRoot; rw [if_pos hg]
  rw [ep]
  refine fi ?_
  intro j
  refine nf ?_
  refine iw ?_ ?_ <;> intro hs
  · rw [tail fun h => hs h.2]
    (first | exact retU | exact retB)
  have hs : r.slots = W.slots := hs
  refine fn (k179 w ad W.slots W.ks (by have := fit.ks.1; omega) fit.ks.2) fun _ => ?_
  unfold wldB
  (repeat' (first | refine st ?_ | (refine iw ?_ ?_ <;> intro h <;> try exact ko) | intro b))
  refine fn (k180 m M (keyW W.ks).1 65535 hM) fun _ => ?_
  generalize hnx : nextN M (keyW W.ks).1 65535 = nx
  refine nf ?_
  refine st ?_
  refine st ?_
  refine st ?_
  intro b2
  refine st ?_
  refine st ?_
  refine iw ?_ ?_ <;> intro he
  · have e : logPut W M r = (nx.2.1, W, nx.2.2) := by unfold logPut; rw [if_pos ⟨hg, hs⟩, hnx, if_neg he]
    rw [e]
    (first | exact retU | exact retB)
  refine W_ent (Pick.dup (A := fzb w [.int .i64 W.slots, ptr ad.p, ptr ad.s, ptr ad.d, ptr ad.c, ptr ad.k, ptr ad.l]) pk' (fzb_dup _ _)) ?_
  refine W_ent (ent_frzNil (α := UInt8)) ?_
  generalize hky : (keyW W.ks).2 = ky
  have okL1 := fit.lk.ok (show n ≤ 2 ^ 30 by omega)
  have hrl := rootBytes_len r
  refine W_draw [fzb w [.int .i64 W.slots, ptr ad.p, ptr ad.s, ptr ad.d, ptr ad.c, ptr ad.k, ptr ad.l], blk b [val ky.a, val ky.b], blk b2 [val nx.1.ep, val nx.1.sl, val nx.1.ver]] sub' fun ro' hle hb => ?_
  obtain ⟨k1, hb⟩ := Kn.of_big hb
  obtain ⟨k2, hb⟩ := Kn.of_big hb
  obtain ⟨k3, hb⟩ := Kn.of_big hb
  (repeat' (first | refine st ?_ | (refine iw ?_ ?_ <;> intro h <;> try exact ko) | intro b))
  refine fn (k181 ad.l W.lk ky nx.1 (.slice none 0 0) u [] (rootBytes r) okL1 ⟨by simp, by omega⟩) fun v => ?_
  generalize hsl : sealL W.lk ky nx.1 [] (rootBytes r) = sL
  unfold sealC
  refine nf ?_
  refine W_slO (v := v) (xs := sL.1.1.bytes) sees' ?_
  rintro a n1 c rfl
  (repeat' (first | refine st ?_ | (refine iw ?_ ?_ <;> intro h <;> try exact ko) | intro b))
  refine fi ?_
  intro j
  refine nf ?_
  (repeat' (first | refine st ?_ | (refine iw ?_ ?_ <;> intro h <;> try exact ko) | intro b))
  refine fn (k182 nx.1 sL.1.1 (.slice a n1 c)) fun v2 => ?_
  refine nf ?_
  refine st ?_
  refine st ?_
  have okS1 := fit.sd.ok fit.sl (show n ≤ 2 ^ 30 by omega)
  refine W_ent (Pick.dup (A := fzb w [.int .i64 W.slots, ptr ad.p, ptr ad.s, ptr ad.d, ptr ad.c, ptr ad.k, ptr ad.l]) pk' (fzb_dup _ _)) ?_
  refine W_draw [fzb w [.int .i64 W.slots, ptr ad.p, ptr ad.s, ptr ad.d, ptr ad.c, ptr ad.k, ptr ad.l], blk b0 (Enc.enc r)] sub' fun ro' hle hb => ?_
  obtain ⟨k1, hb⟩ := Kn.of_big hb
  obtain ⟨k2, hb⟩ := Kn.of_big hb
  (repeat' (first | refine st ?_ | (refine iw ?_ ?_ <;> intro h <;> try exact ko) | intro b))
  refine fn (k183 w ad W.slots r.count k1) fun _ => ?_
  refine fn (k175 ad.s ad.p W.pw W.sd (placeOf W.slots r.count) v2 (putRec nx.1 sL.1.1).1 okS1.1 okS1.2.1 okS1.2.2.1) fun _ => ?_
  refine nf ?_
  refine st ?_
  refine fi ?_
  intro j
  refine nf ?_
  have he' : nx.2.1 = 0 := he
  refine iw ?_ ?_ <;> intro hw
  · have e : logPut W M r = (7, { W with lk := sL.2, pw := (writeS W.pw W.sd (placeOf W.slots r.count) (putRec nx.1 sL.1.1).1).2.1, sd := (writeS W.pw W.sd (placeOf W.slots r.count) (putRec nx.1 sL.1.1).1).2.2 }, nx.2.2) := by
      unfold logPut; rw [if_pos ⟨hg, hs⟩, hnx, if_pos he', hky, hsl, if_neg (by rw [hw]; decide)]
    rw [e]
    (first | exact retU | exact retB)
  · have e : logPut W M r = (0, { W with lk := sL.2, pw := (writeS W.pw W.sd (placeOf W.slots r.count) (putRec nx.1 sL.1.1).1).2.1, sd := (writeS W.pw W.sd (placeOf W.slots r.count) (putRec nx.1 sL.1.1).1).2.2 }, nx.2.2) := by
      unfold logPut; rw [if_pos ⟨hg, hs⟩, hnx, if_pos he', hky, hsl, if_pos hw]
    rw [e]
    (first | exact retU | exact retB)
end Go.Lb
