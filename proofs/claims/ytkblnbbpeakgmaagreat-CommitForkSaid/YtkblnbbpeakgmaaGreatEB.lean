/- The law CommitFork, walked. -/
import Derived.Test.YtkblnbbpeakgmaaGreatDD
import Derived.Test.YtkblnbbpeakgmaaGreatEA
set_option linter.all false
namespace Go.Lb
open Go.Proofs
attribute [local irreducible] WT blk fzb own frz mp exL isA Ent Tri updE drawE At Kn See SeeS

theorem fork_no {W : Wd} {n : Nat} (fit : fitW W n) {no : Nonce} {s : Sealed} (hg : W.pw.gone = false) (hv : W.cn.value = 1) (hb : s.bytes.length = 32) (hsl : no.sl = 65535) (hver : shr64 no.ver 32 ≠ W.cn.at')
    (hrc : sub (snapS W.sd) (placeOf W.slots 1).toNat 60 = recBytes no s) : commitLoad W = ([], 3, W.lk) := by
  have hs := fit.sl
  have hp : placeOf W.slots 1 = W.slots * 160 + ((1 : UInt64).toNat : Int) % 2 * 60 := gR hs (by decide)
  have h1 : (1 : UInt64).toNat = 1 := rfl
  rw [h1] at hp
  have hsz := fit.sd.1
  rw [gS hs] at hsz
  have hin : inS W.sd (placeOf W.slots 1) 60 := by unfold inS; omega
  have hr : readS W.pw W.sd (placeOf W.slots 1) 60 = (recBytes no s, true) := by
    unfold readS
    rw [if_pos ⟨hin, hg⟩, ← hrc]
    rfl
  have hopen : (openedW W (recBytes no s)).2 = false := by
    unfold openedW
    rw [rec_get no s hb hsl]
    rw [if_neg (fun h => hver h.2.2)]
  unfold commitLoad
  rw [if_neg (by rw [hg]; decide), hv, if_neg (by decide)]
  have hget : (logGet W 1).2 = 3 := by
    unfold logGet
    rw [hr, if_pos rfl, if_neg (by rw [hopen]; simp)]
  rw [hget, if_neg (by decide)]
theorem fork_one {W : Wd} {ls : List Leaf} (fit : fitW W 1) (hpw : W.pw = ⟨false, true, 5, 1⟩) (hcn : W.cn = ⟨0, 1, 0⟩) (hsl : W.slots = 4) (hks : W.ks = ⟨9, [1]⟩) (hnum : numL W.lk) (hl : ls.length = 4) (hok : okLs ls = true) :
    ∃ W2 M2 no s, commitDo W ⟨1, 0⟩ ls = (7, W2, M2) ∧ fitW W2 51 ∧ W2.slots = 4 ∧ W2.ks = ⟨9, [1]⟩ ∧ numL W2.lk ∧ W2.cn = ⟨0, 1, 0⟩ ∧ W2.sd.waits = [] ∧
      sub (snapS W2.sd) (placeOf 4 1).toNat 60 = recBytes no s ∧ no.sl = 65535 ∧ s.bytes.length = 32 ∧ shr64 no.ver 32 = 1 := by
  obtain ⟨W', no, s, top, key, hdo, hp5, hcm, haf, hep, hfit⟩ := commit_pre (M := ⟨1, 0⟩) fit (by decide) (by rw [hpw]; exact ⟨rfl, fun _ => by decide⟩) (by rw [hsl, hl]; rfl) hok hnum (by rw [hks]; exact key9) (by rw [hcn]) (by rw [hcn]; decide) (by decide) (by rw [hcn]; decide)
  have hbn : bump W'.pw W'.cn = (false, ⟨true, true, 0, 6⟩, ⟨0, 1, 0⟩) := by
    rw [hp5, haf.cn, hpw, hcn]
    kernel_rfl
  rw [hbn] at hdo
  have hc := hcm W'.pw
  rw [hcn] at hc
  have h1 := hc.rc
  simp only at h1
  rw [haf.slots, hsl, show (0 : UInt64) + 1 = 1 from rfl] at h1
  have h2 := hc.boot
  simp only at h2
  exact ⟨_, _, no, s, hdo, ⟨hfit.sl, hfit.sd, hfit.dk, hfit.ks, hfit.lk⟩, by rw [← hsl]; exact haf.slots, by rw [← hks]; exact haf.ks, haf.num, rfl, haf.waits, h1, hc.sl, hc.sb, h2⟩
theorem setOps_32 : ∀ (ws : List DOp) (l : List (List UInt8)), (∀ b ∈ l, b.length = 32) → (∀ o ∈ ws, o.bytes.length = 32) → ∀ b ∈ setOps l ws, b.length = 32
  | [], l, h, _ => by rw [setOps_nil]; exact h
  | o :: ws, l, h, hw => by
    have e : setOps l (o :: ws) = setOps (l.set o.off.toNat o.bytes) ws := by simp only [setOps, List.foldl_cons]
    rw [e]
    refine setOps_32 ws _ ?_ (fun p hp => hw p (by simp [hp]))
    intro b hb
    rcases List.mem_or_eq_of_mem_set hb with hb | hb
    · exact h b hb
    · rw [hb]; exact hw o (by simp)
theorem crashW_fit {W : Wd} {n : Nat} (h : fitW W n) (keep : List Bool) : fitW (crashW W keep) n := by
  refine ⟨h.sl, ⟨?_, by simp [crashW, crashS, settle], h.sd.2.2.1, by simp [crashW, crashS, settle]⟩, ⟨?_, by simp [crashW, crashD], h.dk.2.2.1, ?_, by simp [crashW, crashD]⟩, h.ks, h.lk⟩
  · show ((layOps W.sd.lasts (keepTo (kpf keep) W.sd.waits W.sd.waits.length)).length : Int) = _
    rw [layOps_len _ _ fun o ho => h.sd.2.2.2 o (keepTo_mem ho)]
    exact h.sd.1
  · show (setOps W.dk.lasts _).length = 32
    rw [setOps_len]
    exact h.dk.1
  · exact setOps_32 _ _ h.dk.2.2.2.1 fun o ho => (h.dk.2.2.2.2 o (keepTo_mem ho)).2.2
theorem crash_none {x : Sd} (h : x.waits = []) (keep : List Bool) : snapS (crashS x keep) = snapS x := by
  unfold snapS crashS settle
  rw [h]
  simp only [keepTo, List.length_nil, List.range_zero, List.filterMap_nil, layOps_nil]
theorem sub_back {x : Sd} {bs : List UInt8} (h : bs.length = x.lasts.length) : snapS (backS x bs).2 = bs ∧ (backS x bs).2.lasts.length = x.lasts.length := by
  unfold backS
  rw [if_pos h]
  unfold snapS
  rw [layOps_nil]
  exact ⟨rfl, h⟩
theorem backW_fit {W : Wd} {n : Nat} (h : fitW W n) {bs : List UInt8} (hb : bs.length = W.sd.lasts.length) : fitW { W with sd := (backS W.sd bs).2 } n := by
  refine ⟨h.sl, ?_, h.dk, h.ks, h.lk⟩
  show fitS W.slots (backS W.sd bs).2 n
  unfold backS
  rw [if_pos hb]
  exact ⟨by simp only; rw [hb]; exact h.sd.1, by simp, h.sd.2.2.1, by simp⟩
set_option maxHeartbeats 1000000 in
theorem k5 {ro : HP} {A B C : Asrt} (v u x : Value) (la lb : List Int) (tags : List UInt64) (hA : ∀ g, A g → seen v la g) (hB : ∀ g, B g → seen u lb g) (hC : ∀ g, C g → seen x tags g) : Fn Tryz.prog ro 5 [v, u, x] [A, B, C] fun _ : Unit => (.bool true, [A, B, C]) := by
  refine c5 _ _ _ ?_
  unfold t5
  have k28' := k28 (ro := ro) 4 9 true realZ (by omega)
  rw [show newLk realZ true = idl from rfl] at k28'
  have hpw0 : (newW 4 9 idl).pw = ⟨false, false, 0, 0⟩ := rfl
  have hcn0 : (newW 4 9 idl).cn = ⟨0, 0, 0⟩ := rfl
  have hsl0 : (newW 4 9 idl).slots = 4 := rfl
  have hks0 : (newW 4 9 idl).ks = ⟨9, [1]⟩ := rfl
  have hlk0 : numL (newW 4 9 idl).lk := idl_num
  have fit0 : fitW (newW 4 9 idl) 1 := newW_fit (by omega) 9 idl_fit
  generalize newW 4 9 idl = W0 at *
  obtain ⟨W1, hW1⟩ : ∃ W1 : Wd, W1 = { W0 with pw := ⟨false, true, 5, 1⟩, cn := ⟨0, 1, 0⟩ } := ⟨_, rfl⟩
  have fit1 : fitW W1 1 := by rw [hW1]; exact ⟨fit0.sl, fit0.sd, fit0.dk, fit0.ks, fit0.lk⟩
  obtain ⟨W2, M2, no, s, hdo2, fit2, hsl2, hks2, hnum2, hcn2, hwt2, hrc2, hno2, hsb2, hver2⟩ := fork_one (ls := someL 4 la tags) fit1 (by rw [hW1]) (by rw [hW1]) (by rw [hW1]; exact hsl0) (by rw [hW1]; exact hks0) (by rw [hW1]; exact hlk0) (someL_len _ _ _) (someL_ok _ _)
  have fit3 := crashW_fit fit2 []
  have hsn3 := crash_none hwt2 []
  obtain ⟨W4, hW4⟩ : ∃ W4 : Wd, W4 = { crashW W2 [] with pw := (bootC (crashW W2 []).pw (crashW W2 []).cn).2.1, cn := ⟨0, 2, 0⟩ } := ⟨_, rfl⟩
  have hboot0 : bootC W0.pw W0.cn = (true, ⟨false, false, 0, 1⟩, ⟨0, 1, 0⟩) := by rw [hpw0, hcn0]; kernel_rfl
  have hcn3 : (crashW W2 []).cn = ⟨0, 1, 0⟩ := hcn2
  have hpw3 : pwOn (crashW W2 []).pw := ⟨rfl, rfl⟩
  have hboot3 : bootC (crashW W2 []).pw (crashW W2 []).cn = (true, (bootC (crashW W2 []).pw (crashW W2 []).cn).2.1, ⟨0, 2, 0⟩) := by
    rw [hcn3]
    unfold bootC
    rw [spend_on hpw3]
    rfl
  have hpw4 : pwOn W4.pw := by
    rw [hW4]
    show pwOn (bootC (crashW W2 []).pw (crashW W2 []).cn).2.1
    unfold bootC
    rw [spend_on hpw3]
    exact step_on hpw3
  have fit4 : fitW W4 51 := by rw [hW4]; exact ⟨fit3.sl, fit3.sd, fit3.dk, fit3.ks, fit3.lk⟩
  obtain ⟨W5, no5, s5, top5, key5, hdo5, hcm5, haf5, hcn5, _⟩ := commit_on (M := ⟨2, 0⟩) (ls := someL 4 lb tags) fit4 (by decide) hpw4 (by rw [hW4, someL_len]; show (4 : Int) = W2.slots; rw [hsl2]) (someL_ok _ _) (by rw [hW4]; exact hnum2) (by rw [hW4]; show (keyP W2.ks (lastE W2.ks.epochs)).2 = true; rw [hks2]; exact key9) (by rw [hW4]) (by rw [hW4]; show (2 : UInt64).toNat < 4294967296; decide) (by decide) (by rw [hW4]; show (0 : UInt64).toNat < 2 ^ 62; decide)
  have fit5 : fitW W5 101 := by have := commitDo_fit fit4 ⟨2, 0⟩ (someL 4 lb tags); rw [hdo5] at this; exact this
  have hl5 := hcm5.load fit5 haf5.on.1
  have hsl5 : W5.slots = 4 := by rw [haf5.slots, hW4]; exact hsl2
  have hbl : (snapS W2.sd).length = W5.sd.lasts.length := by
    rw [snap_len fit2.sd.2.2.2]
    have h1 := fit2.sd.1
    have h2 := fit5.sd.1
    rw [hsl2] at h1
    rw [hsl5] at h2
    omega
  obtain ⟨W6, hW6⟩ : ∃ W6 : Wd, W6 = { W5 with sd := (backS W5.sd (snapS W2.sd)).2 } := ⟨_, rfl⟩
  have fit6 : fitW W6 101 := by rw [hW6]; exact backW_fit fit5 hbl
  have hcnW4 : W4.cn = ⟨0, 2, 0⟩ := by rw [hW4]
  rw [hcnW4] at hcn5
  have hl6 := fork_no (no := no) (s := s) fit6 (by rw [hW6]; exact haf5.on.1) (by rw [hW6]; show W5.cn.value = 1; rw [hcn5]; rfl) hsb2 hno2 (by rw [hver2, hW6]; show ¬ (1 : UInt64) = W5.cn.at'; rw [hcn5]; decide)
    (by rw [hW6]; show sub (snapS (backS W5.sd (snapS W2.sd)).2) (placeOf W5.slots 1).toNat 60 = _; rw [(sub_back hbl).1, hsl5]; exact hrc2)
  refine fn k28' fun q => ?_
  obtain ⟨w, ad⟩ := q
  (repeat' (first | refine st ?_ | (refine iw ?_ ?_ <;> intro h <;> try exact ko) | intro b))
  refine fn (k38 ad.c ad.p W0.pw W0.cn) fun _ => ?_
  rw [hboot0]
  (repeat' (first | refine st ?_ | (refine iw ?_ ?_ <;> intro h <;> try exact ko) | intro b))
  refine fn (k39 ad.c ad.p ⟨0, 1, 0⟩) fun _ => ?_
  (repeat' (first | refine st ?_ | (refine iw ?_ ?_ <;> intro h <;> try exact ko) | intro b))
  refine fn (k29 1 (by decide)) fun m1 => ?_
  (repeat' (first | refine st ?_ | (refine iw ?_ ?_ <;> intro h <;> try exact ko) | intro b))
  refine fn (k36 ad.p ⟨false, false, 0, 1⟩ 5) fun _ => ?_
  rw [show fuseP ⟨false, false, 0, 1⟩ 5 = ⟨false, true, 5, 1⟩ from rfl]
  (repeat' (first | refine st ?_ | (refine iw ?_ ?_ <;> intro h <;> try exact ko) | intro b))
  refine fn (k31 4 v x la tags (by decide) hA hC) fun y1 => ?_
  subst hW1
  refine fn (k30 (A := own y1 (someL 4 la tags)) w ad { W0 with pw := ⟨false, true, 5, 1⟩, cn := ⟨0, 1, 0⟩ } 1 m1 ⟨1, 0⟩ y1 (someL 4 la tags) fit1 (by decide) ⟨by decide, by decide⟩ (fun _ => own_seen)) fun _ => ?_
  rw [hdo2]
  (repeat' (first | refine st ?_ | (refine iw ?_ ?_ <;> intro h <;> try exact ko) | intro b))
  refine fn (k40 ad.s ad.p W2.sd (fit2.sd.ok fit2.sl (by decide))) fun sn => ?_
  refine W_ent (ent_frzNil (α := Bool)) ?_
  refine fn (k37 w ad W2 (.slice none 0 0) [] (fit2.sd.ok fit2.sl (by decide)) (fit2.dk.ok (by decide))) fun _ => ?_
  (repeat' (first | refine st ?_ | (refine iw ?_ ?_ <;> intro h <;> try exact ko) | intro b))
  refine fn (k38 ad.c ad.p (crashW W2 []).pw (crashW W2 []).cn) fun _ => ?_
  rw [hboot3]
  (repeat' (first | refine st ?_ | (refine iw ?_ ?_ <;> intro h <;> try exact ko) | intro b))
  refine fn (k39 ad.c ad.p ⟨0, 2, 0⟩) fun _ => ?_
  (repeat' (first | refine st ?_ | (refine iw ?_ ?_ <;> intro h <;> try exact ko) | intro b))
  refine fn (k29 2 (by decide)) fun m2 => ?_
  (repeat' (first | refine st ?_ | (refine iw ?_ ?_ <;> intro h <;> try exact ko) | intro b))
  refine fn (k31 4 u x lb tags (by decide) hB hC) fun y2 => ?_
  subst hW4
  refine fn (k30 (A := own y2 (someL 4 lb tags)) w ad { crashW W2 [] with pw := (bootC (crashW W2 []).pw (crashW W2 []).cn).2.1, cn := ⟨0, 2, 0⟩ } 51 m2 ⟨2, 0⟩ y2 (someL 4 lb tags) fit4 (by decide) ⟨by decide, by decide⟩ (fun _ => own_seen)) fun _ => ?_
  rw [hdo5]
  refine nf ?_
  refine fn (k32 w ad W5 101 fit5 (by decide)) fun r => ?_
  rw [hl5]
  (repeat' (first | refine st ?_ | (refine iw ?_ ?_ <;> intro h <;> try exact ko) | intro b))
  refine W_frzS (v := sn) pk' ?_
  refine fn (k41 ad.s ad.p sn (snapS W2.sd) W5.sd (fit5.sd.ok fit5.sl (by decide))) fun _ => ?_
  subst hW6
  refine fn (k32 w ad { W5 with sd := (backS W5.sd (snapS W2.sd)).2 } 101 fit6 (by decide)) fun r2 => ?_
  rw [hl6]
  refine st ?_
  refine st ?_
  refine st ?_
  refine iw (fun _ => ?_) fun h1 => absurd trivial h1
  refine st ?_
  refine iw (fun _ => ?_) fun h1 => absurd trivial h1
  refine st ?_
  refine iw (fun _ => ?_) fun h1 => absurd trivial h1
  refine fn (k31 4 u x lb tags (by decide) hB hC) fun y3 => ?_
  refine fn (k33 (A := own r (someL 4 lb tags)) (B := own y3 (someL 4 lb tags)) r y3 (someL 4 lb tags) (someL 4 lb tags) (fun _ => own_seen) (fun _ => own_seen) (by rw [someL_len]; decide)) fun _ => ?_
  rw [show sameL (someL 4 lb tags) (someL 4 lb tags) = true from by simp [sameL]]
  refine W_iteT ?_
  refine st ?_
  refine iw (fun _ => ?_) fun h1 => absurd trivial h1
  refine fn k35 fun _ => ?_
  (first | exact retU | exact retB)
end Go.Lb
