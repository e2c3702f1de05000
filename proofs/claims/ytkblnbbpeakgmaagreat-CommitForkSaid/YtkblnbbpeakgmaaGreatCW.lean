/- Contracts: log.Get, commit. No statement of the seat is proved in this file. -/
import Derived.Test.YtkblnbbpeakgmaaGreatCV
set_option linter.all false
namespace Go.Lb
open Go.Proofs
attribute [local irreducible] WT blk fzb own frz mp exL isA Ent Tri updE drawE At Kn See SeeS

theorem openL_len {lk : Lk} {n : Nat} (h : fitL lk n) (key : Pair) (no : Nonce) (head : List UInt8) (s : Sealed) : (openL lk key no head s).1.length ≤ 4000 ∨ (openL lk key no head s).1.length ≤ s.bytes.length := by
  cases lk with
  | real r => exact .inr (RealOk.ten h _ _ _ _)
  | ideal x =>
    left
    show (openO x key no head s).1.length ≤ 4000
    unfold openO
    split
    · rename_i i hi
      exact (h.2.2 i (List.mem_of_find?_eq_some hi)).2.1
    · simp
def openedW (W : Wd) (rec : List UInt8) : Root × Bool :=
  if (getRec rec).2.2 = true ∧ (keyP W.ks (getRec rec).1.ep).2 = true ∧ shr64 (getRec rec).1.ver 32 = W.cn.at' then
    if (openL W.lk (keyP W.ks (getRec rec).1.ep).1 (getRec rec).1 [] (getRec rec).2.1).2 = true then getRoot (openL W.lk (keyP W.ks (getRec rec).1.ep).1 (getRec rec).1 [] (getRec rec).2.1).1 else (zRoot, false)
  else (zRoot, false)
theorem getRec_len (b : List UInt8) : (getRec b).2.1.bytes.length ≤ 32 := by
  unfold getRec
  split
  · simp
    omega
  · simp [zSealed]
theorem k185 {ro : HP} (w : Nat) (ad : Ad) (W : Wd) (n : Nat) (v : Value) (rec : List UInt8) (fit : fitW W n) (hn : n ≤ 2 ^ 28) (hl : rec.length ≤ 2 ^ 30) :
    Fn Tryz.prog ro 185 [ptr w, v] (frz v rec :: wldL w ad W) fun _ : Unit => (.tuple ⟨[agg (openedW W rec).1, .bool (openedW W rec).2]⟩, frz v rec :: wldL w ad W) := by
  refine c185 _ _ ?_
  unfold t185
  refine st ?_
  intro b0
  refine fn (k252 v rec hl) fun u => ?_
  have hgl := getRec_len rec
  have hW : openedW W rec = if (getRec rec).2.2 = true ∧ (keyP W.ks (getRec rec).1.ep).2 = true ∧ shr64 (getRec rec).1.ver 32 = W.cn.at' then
    if (openL W.lk (keyP W.ks (getRec rec).1.ep).1 (getRec rec).1 [] (getRec rec).2.1).2 = true then getRoot (openL W.lk (keyP W.ks (getRec rec).1.ep).1 (getRec rec).1 [] (getRec rec).2.1).1 else (zRoot, false)
  else (zRoot, false) := rfl
  generalize getRec rec = g at *
  generalize hky : keyP W.ks g.1.ep = ky at *
  unfold sealC
  refine W_slO (v := u) (xs := g.2.1.bytes) sees' ?_
  rintro a n1 c rfl
  refine nf ?_
  refine st ?_
  refine st ?_
  refine st ?_
  refine st ?_
  intro b1
  refine st ?_
  intro b2
  refine st ?_
  refine st ?_
  have hkl : W.ks.epochs.length ≤ 2 ^ 40 := by have := fit.ks.1; omega
  refine W_ent (Pick.dup (A := fzb w [.int .i64 W.slots, ptr ad.p, ptr ad.s, ptr ad.d, ptr ad.c, ptr ad.k, ptr ad.l]) pk' (fzb_dup _ _)) ?_
  refine W_draw [fzb w [.int .i64 W.slots, ptr ad.p, ptr ad.s, ptr ad.d, ptr ad.c, ptr ad.k, ptr ad.l], blk b1 [val g.1.ep, val g.1.sl, val g.1.ver]] sub' fun ro' hle hb => ?_
  obtain ⟨k1, hb⟩ := Kn.of_big hb
  obtain ⟨k2, hb⟩ := Kn.of_big hb
  (repeat' (first | refine st ?_ | (refine iw ?_ ?_ <;> intro h <;> try exact ko) | intro b))
  refine fn (k155 ad.k ad.p W.ks g.1.ep hkl) fun _ => ?_
  rw [hky]
  (repeat' (first | refine st ?_ | (refine iw ?_ ?_ <;> intro h <;> try exact ko) | intro b))
  refine fi ?_
  intro j
  (repeat' (first | refine st ?_ | (refine iw ?_ ?_ <;> intro h <;> try exact ko) | intro b))
  refine W_ent (Pick.dup (A := fzb w [.int .i64 W.slots, ptr ad.p, ptr ad.s, ptr ad.d, ptr ad.c, ptr ad.k, ptr ad.l]) pk' (fzb_dup _ _)) ?_
  refine W_draw [fzb w [.int .i64 W.slots, ptr ad.p, ptr ad.s, ptr ad.d, ptr ad.c, ptr ad.k, ptr ad.l], blk b1 [val g.1.ep, val g.1.sl, val g.1.ver]] sub' fun ro' hle hb => ?_
  obtain ⟨k1, hb⟩ := Kn.of_big hb
  obtain ⟨k2, hb⟩ := Kn.of_big hb
  refine st ?_
  refine iw ?_ ?_ <;> intro h1
  · refine fi ?_
    intro j
    (repeat' (first | refine st ?_ | (refine iw ?_ ?_ <;> intro h <;> try exact ko) | intro b))
    rw [hW, if_neg (by rintro ⟨h, _⟩; rw [h1] at h; cases h)]
    (first | exact retU | exact retB)
  refine st ?_
  refine iw ?_ ?_ <;> intro h2
  · refine fi ?_
    intro j
    (repeat' (first | refine st ?_ | (refine iw ?_ ?_ <;> intro h <;> try exact ko) | intro b))
    rw [hW, if_neg (by rintro ⟨_, h, _⟩; rw [h2] at h; cases h)]
    (first | exact retU | exact retB)
  (repeat' (first | refine st ?_ | (refine iw ?_ ?_ <;> intro h <;> try exact ko) | intro b))
  refine fn (k253 g.1) fun _ => ?_
  (repeat' (first | refine st ?_ | (refine iw ?_ ?_ <;> intro h <;> try exact ko) | intro b))
  refine fn (k254 ad.c ad.p W.cn) fun _ => ?_
  refine nf ?_
  refine st ?_
  refine fi ?_
  intro j
  refine nf ?_
  refine iw ?_ ?_ <;> intro h3
  · have h3' : ¬ shr64 g.1.ver 32 = W.cn.at' := fun h => h3 (by rw [h])
    (repeat' (first | refine st ?_ | (refine iw ?_ ?_ <;> intro h <;> try exact ko) | intro b))
    rw [hW, if_neg (by rintro ⟨_, _, h⟩; exact h3' h)]
    (first | exact retU | exact retB)
  have h3' : shr64 g.1.ver 32 = W.cn.at' := UInt64.toNat_inj.1 (by omega)
  rw [if_pos ⟨h1, h2, h3'⟩] at hW
  have hol := openL_len fit.lk ky.1 g.1 [] g.2.1
  generalize hop : openL W.lk ky.1 g.1 [] g.2.1 = op at *
  refine W_ent (ent_frzNil (α := UInt8)) ?_
  refine W_ent (Pick.dup (A := fzb w [.int .i64 W.slots, ptr ad.p, ptr ad.s, ptr ad.d, ptr ad.c, ptr ad.k, ptr ad.l]) pk' (fzb_dup _ _)) ?_
  refine W_draw [fzb w [.int .i64 W.slots, ptr ad.p, ptr ad.s, ptr ad.d, ptr ad.c, ptr ad.k, ptr ad.l], blk b [val ky.1.a, val ky.1.b], blk b1 [val g.1.ep, val g.1.sl, val g.1.ver], blk b2 [.slice a n1 c, val g.2.1.tag.a, val g.2.1.tag.b]] sub' fun ro' hle hb => ?_
  obtain ⟨k1, hb⟩ := Kn.of_big hb
  obtain ⟨k2, hb⟩ := Kn.of_big hb
  obtain ⟨k3, hb⟩ := Kn.of_big hb
  obtain ⟨k4, hb⟩ := Kn.of_big hb
  (repeat' (first | refine st ?_ | (refine iw ?_ ?_ <;> intro h <;> try exact ko) | intro b))
  refine fn (k255 ad.l W.lk ky.1 g.1 (.slice none 0 0) (.slice a n1 c) [] g.2.1 (fit.lk.ok (by omega)) ⟨by simp, by omega⟩) fun v2 => ?_
  rw [hop]
  (repeat' (first | refine st ?_ | (refine iw ?_ ?_ <;> intro h <;> try exact ko) | intro b))
  refine fi ?_
  intro j
  refine nf ?_
  refine st ?_
  refine iw ?_ ?_ <;> intro h4
  · (repeat' (first | refine st ?_ | (refine iw ?_ ?_ <;> intro h <;> try exact ko) | intro b))
    rw [hW, if_neg (by rw [h4]; decide)]
    (first | exact retU | exact retB)
  refine fn (k256 v2 op.1 (by omega)) fun _ => ?_
  (repeat' (first | refine st ?_ | (refine iw ?_ ?_ <;> intro h <;> try exact ko) | intro b))
  rw [hW, if_pos h4]
  (first | exact retU | exact retB)
def logGet (W : Wd) (count : UInt64) : Root × Int :=
  if (readS W.pw W.sd (placeOf W.slots count) 60).2 = true then
    if (openedW W (readS W.pw W.sd (placeOf W.slots count) 60).1).2 = true ∧ (openedW W (readS W.pw W.sd (placeOf W.slots count) 60).1).1.count = count ∧ (openedW W (readS W.pw W.sd (placeOf W.slots count) 60).1).1.slots = W.slots then
      ((openedW W (readS W.pw W.sd (placeOf W.slots count) 60).1).1, 0)
    else (zRoot, 3)
  else (zRoot, 7)
theorem readS_len (w : Pw) (x : Sd) (off n : Int) : (readS w x off n).1.length ≤ n.toNat := by
  unfold readS
  split
  · simp; omega
  · simp
theorem k105 {ro : HP} (w : Nat) (ad : Ad) (W : Wd) (n : Nat) (count : UInt64) (fit : fitW W n) (hn : n ≤ 2 ^ 28) :
    Fn Tryz.prog ro 105 [ptr w, val count] (wldL w ad W) fun _ : Unit => (.tuple ⟨[agg (logGet W count).1, .int .i64 (logGet W count).2]⟩, wldL w ad W) := by
  refine c105 _ _ ?_
  unfold t105
  refine st ?_
  intro b0
  refine st ?_
  refine st ?_
  have okS1 := fit.sd.ok fit.sl (show n ≤ 2 ^ 30 by omega)
  refine W_ent (Pick.dup (A := fzb w [.int .i64 W.slots, ptr ad.p, ptr ad.s, ptr ad.d, ptr ad.c, ptr ad.k, ptr ad.l]) pk' (fzb_dup _ _)) ?_
  refine W_draw [fzb w [.int .i64 W.slots, ptr ad.p, ptr ad.s, ptr ad.d, ptr ad.c, ptr ad.k, ptr ad.l]] sub' fun ro' hle hb => ?_
  obtain ⟨k1, hb⟩ := Kn.of_big hb
  (repeat' (first | refine st ?_ | (refine iw ?_ ?_ <;> intro h <;> try exact ko) | intro b))
  refine fn (k183 w ad W.slots count k1) fun _ => ?_
  refine fn (k184 ad.s ad.p W.pw W.sd (placeOf W.slots count) 60 okS1) fun r => ?_
  have hrl := readS_len W.pw W.sd (placeOf W.slots count) 60
  have hW : logGet W count = if (readS W.pw W.sd (placeOf W.slots count) 60).2 = true then
    if (openedW W (readS W.pw W.sd (placeOf W.slots count) 60).1).2 = true ∧ (openedW W (readS W.pw W.sd (placeOf W.slots count) 60).1).1.count = count ∧ (openedW W (readS W.pw W.sd (placeOf W.slots count) 60).1).1.slots = W.slots then
      ((openedW W (readS W.pw W.sd (placeOf W.slots count) 60).1).1, 0)
    else (zRoot, 3)
  else (zRoot, 7) := rfl
  generalize readS W.pw W.sd (placeOf W.slots count) 60 = rd at *
  (repeat' (first | refine st ?_ | (refine iw ?_ ?_ <;> intro h <;> try exact ko) | intro b))
  refine fi ?_
  intro j
  refine nf ?_
  refine st ?_
  refine iw ?_ ?_ <;> intro h1
  · (repeat' (first | refine st ?_ | (refine iw ?_ ?_ <;> intro h <;> try exact ko) | intro b))
    rw [hW, if_neg (by rw [h1]; decide)]
    (first | exact retU | exact retB)
  rw [if_pos h1] at hW
  refine fn (k185 w ad W n r rd.1 fit hn (by have h60 : (60 : Int).toNat = 60 := rfl; omega)) fun _ => ?_
  generalize openedW W rd.1 = o at *
  refine nf ?_
  refine st ?_
  refine st ?_
  refine st ?_
  intro b1
  refine st ?_
  refine W_ent (Pick.dup (A := fzb w [.int .i64 W.slots, ptr ad.p, ptr ad.s, ptr ad.d, ptr ad.c, ptr ad.k, ptr ad.l]) pk' (fzb_dup _ _)) ?_
  refine W_draw [fzb w [.int .i64 W.slots, ptr ad.p, ptr ad.s, ptr ad.d, ptr ad.c, ptr ad.k, ptr ad.l], blk b1 (Enc.enc o.1)] sub' fun ro' hle hb => ?_
  obtain ⟨k1, hb⟩ := Kn.of_big hb
  obtain ⟨k2, hb⟩ := Kn.of_big hb
  refine st ?_
  refine iw ?_ ?_ <;> intro h2
  · refine fi ?_
    intro j
    (repeat' (first | refine st ?_ | (refine iw ?_ ?_ <;> intro h <;> try exact ko) | intro b))
    rw [hW, if_neg (by rintro ⟨h, _⟩; rw [h2] at h; cases h)]
    (first | exact retU | exact retB)
  refine st ?_
  refine st ?_
  refine st ?_
  refine iw ?_ ?_ <;> intro h3
  · have h3' : ¬ o.1.count = count := fun h => h3 (by rw [h])
    refine fi ?_
    intro j
    (repeat' (first | refine st ?_ | (refine iw ?_ ?_ <;> intro h <;> try exact ko) | intro b))
    rw [hW, if_neg (by rintro ⟨_, h, _⟩; exact h3' h)]
    (first | exact retU | exact retB)
  have h3' : o.1.count = count := UInt64.toNat_inj.1 (by omega)
  (repeat' (first | refine st ?_ | (refine iw ?_ ?_ <;> intro h <;> try exact ko) | intro b))
  refine fi ?_
  intro j
  refine nf ?_
  refine iw ?_ ?_ <;> intro h4
  · (repeat' (first | refine st ?_ | (refine iw ?_ ?_ <;> intro h <;> try exact ko) | intro b))
    rw [hW, if_neg (by rintro ⟨_, _, h⟩; exact h4 h)]
    (first | exact retU | exact retB)
  · (repeat' (first | refine st ?_ | (refine iw ?_ ?_ <;> intro h <;> try exact ko) | intro b))
    rw [hW, if_pos ⟨h2, h3', h4⟩]
    (first | exact retU | exact retB)
def commitDo (W : Wd) (M : Mkr) (ls : List Leaf) : Int × Wd × Mkr :=
  let a := areaWrite W ((((W.cn.value + 1).toNat : Nat) : Int) % 2) ls
  if a.2.1 = 0 then
    let b := barS a.2.2.pw a.2.2.sd
    let W1 := { a.2.2 with pw := b.2.1, sd := b.2.2 }
    if b.1 = true then
      let l := logPut W1 M ⟨W.cn.value + 1, lastE W1.ks.epochs, W1.slots, a.1⟩
      if l.1 = 0 then
        let b2 := barS l.2.1.pw l.2.1.sd
        let W2 := { l.2.1 with pw := b2.2.1, sd := b2.2.2 }
        if b2.1 = true then
          let c := bump W2.pw W2.cn
          (if c.1 = true then 0 else 7, { W2 with pw := c.2.1, cn := c.2.2 }, l.2.2)
        else (7, W2, l.2.2)
      else (l.1, l.2.1, l.2.2)
    else (7, W1, M)
  else (a.2.1, a.2.2, M)
theorem barS_fitW {W : Wd} {n : Nat} (h : fitW W n) : fitW { W with pw := (barS W.pw W.sd).2.1, sd := (barS W.pw W.sd).2.2 } (n + 1) :=
  ⟨h.sl, barS_fit h.sd _, h.dk.mono (by omega), ⟨Nat.le_succ_of_le h.ks.1, h.ks.2⟩, h.lk.mono (by omega)⟩
theorem areaWrite_keep (W : Wd) (a : Int) (ls : List Leaf) : (areaWrite W a ls).2.2.slots = W.slots ∧ (areaWrite W a ls).2.2.ks = W.ks ∧ (areaWrite W a ls).2.2.cn = W.cn ∧ (areaWrite W a ls).2.2.dk = W.dk := by
  unfold areaWrite
  split
  · split
    · split <;> exact ⟨rfl, rfl, rfl, rfl⟩
    · exact ⟨rfl, rfl, rfl, rfl⟩
  · exact ⟨rfl, rfl, rfl, rfl⟩
theorem logPut_keep (W : Wd) (M : Mkr) (r : Root) : (logPut W M r).2.1.slots = W.slots ∧ (logPut W M r).2.1.ks = W.ks ∧ (logPut W M r).2.1.cn = W.cn ∧ (logPut W M r).2.1.dk = W.dk := by
  unfold logPut
  split
  · split
    · split <;> exact ⟨rfl, rfl, rfl, rfl⟩
    · exact ⟨rfl, rfl, rfl, rfl⟩
  · exact ⟨rfl, rfl, rfl, rfl⟩
theorem commitDo_fit {W : Wd} {n : Nat} (h : fitW W n) (M : Mkr) (ls : List Leaf) : fitW (commitDo W M ls).2.1 (n + 50) := by
  have h1 := areaWrite_fit h ((((W.cn.value + 1).toNat : Nat) : Int) % 2) ls
  unfold commitDo
  simp only
  generalize areaWrite W ((((W.cn.value + 1).toNat : Nat) : Int) % 2) ls = a at *
  split
  · have h2 := barS_fitW h1
    split
    · have h3 := logPut_fit h2 M ⟨W.cn.value + 1, lastE a.2.2.ks.epochs, a.2.2.slots, a.1⟩
      split
      · have h4 := barS_fitW h3
        split
        · exact (fitW.mono (W := _) ⟨h4.sl, h4.sd, h4.dk, h4.ks, h4.lk⟩ (by omega))
        · exact h4.mono (by omega)
      · exact h3.mono (by omega)
    · exact h2.mono (by omega)
  · exact h1.mono (by omega)
theorem commitDo_ok {W : Wd} {M : Mkr} (h : okM M) (ls : List Leaf) : okM (commitDo W M ls).2.2 := by
  unfold commitDo
  simp only
  split
  · split
    · split
      · split <;> exact logPut_ok h _
      · exact logPut_ok h _
    · exact h
  · exact h
theorem k30 {ro : HP} {A : Asrt} (w : Nat) (ad : Ad) (W : Wd) (n : Nat) (m : Nat) (M : Mkr) (v : Value) (ls : List Leaf) (fit : fitW W n) (hn : n ≤ 2 ^ 27) (hM : okM M) (hA : ∀ g, A g → seen v ls g) :
    Fn Tryz.prog ro 30 [ptr w, ptr m, v] (A :: mkA m M :: wldL w ad W) fun _ : Unit => (.int .i64 (commitDo W M ls).1, A :: mkA m (commitDo W M ls).2.2 :: wldL w ad (commitDo W M ls).2.1) := by
  refine c30 _ _ _ ?_
  unfold t30
  (repeat' (first | refine st ?_ | (refine iw ?_ ?_ <;> intro h <;> try exact ko) | intro b))
  refine fn (k34 ad.c ad.p W.cn) fun _ => ?_
  refine W_u64inc ?_
  refine st ?_
  refine st ?_
  rw [i64_wrap (n := ((W.cn.value + 1).toNat : Int) % 2) (by omega)]
  refine fn (k100 (A := A) w ad W n (((W.cn.value + 1).toNat : Int) % 2) v ls fit (by omega) hA) fun _ => ?_
  have hW : commitDo W M ls = (let a := areaWrite W ((((W.cn.value + 1).toNat : Nat) : Int) % 2) ls
    if a.2.1 = 0 then
      let b := barS a.2.2.pw a.2.2.sd
      let W1 := { a.2.2 with pw := b.2.1, sd := b.2.2 }
      if b.1 = true then
        let l := logPut W1 M ⟨W.cn.value + 1, lastE W1.ks.epochs, W1.slots, a.1⟩
        if l.1 = 0 then
          let b2 := barS l.2.1.pw l.2.1.sd
          let W2 := { l.2.1 with pw := b2.2.1, sd := b2.2.2 }
          if b2.1 = true then
            let c := bump W2.pw W2.cn
            (if c.1 = true then 0 else 7, { W2 with pw := c.2.1, cn := c.2.2 }, l.2.2)
          else (7, W2, l.2.2)
        else (l.1, l.2.1, l.2.2)
      else (7, W1, M)
    else (a.2.1, a.2.2, M)) := rfl
  have f1 := areaWrite_fit fit (((W.cn.value + 1).toNat : Int) % 2) ls
  have kp1 := areaWrite_keep W (((W.cn.value + 1).toNat : Int) % 2) ls
  generalize areaWrite W (((W.cn.value + 1).toNat : Int) % 2) ls = a at *
  simp only at hW
  refine nf ?_
  refine st ?_
  refine st ?_
  refine st ?_
  intro b1
  refine st ?_
  refine st ?_
  refine iw ?_ ?_ <;> intro h1
  · rw [hW, if_neg h1]
    (first | exact retU | exact retB)
  rw [if_pos h1] at hW
  refine st ?_
  refine st ?_
  refine st ?_
  refine fn (k101 ad.s ad.p a.2.2.pw a.2.2.sd (f1.sd.ok f1.sl (by omega))) fun _ => ?_
  have f2 := barS_fitW f1
  generalize barS a.2.2.pw a.2.2.sd = bb at *
  refine st ?_
  refine iw ?_ ?_ <;> intro h2
  · rw [hW, if_neg (by rw [h2]; decide)]
    (first | exact retU | exact retB)
  rw [if_pos h2] at hW
  refine W_ent (Pick.dup (A := fzb w [.int .i64 a.2.2.slots, ptr ad.p, ptr ad.s, ptr ad.d, ptr ad.c, ptr ad.k, ptr ad.l]) pk' (fzb_dup _ _)) ?_
  refine W_draw [fzb w [.int .i64 a.2.2.slots, ptr ad.p, ptr ad.s, ptr ad.d, ptr ad.c, ptr ad.k, ptr ad.l], blk b1 [val a.1.a, val a.1.b]] sub' fun ro' hle hb => ?_
  obtain ⟨k1, hb⟩ := Kn.of_big hb
  obtain ⟨k2, hb⟩ := Kn.of_big hb
  (repeat' (first | refine st ?_ | (refine iw ?_ ?_ <;> intro h <;> try exact ko) | intro b))
  refine fn (k54 ad.k ad.p a.2.2.ks (by have : a.2.2.ks.epochs.length ≤ n + 40 + 1 := f2.ks.1; omega) f2.ks.2) fun _ => ?_
  (repeat' (first | refine st ?_ | (refine iw ?_ ?_ <;> intro h <;> try exact ko) | intro b))
  refine fi ?_
  intro j
  (repeat' (first | refine st ?_ | (refine iw ?_ ?_ <;> intro h <;> try exact ko) | intro b))
  refine fn (k102 w ad { a.2.2 with pw := bb.2.1, sd := bb.2.2 } (n + 41) m M ⟨W.cn.value + 1, lastE a.2.2.ks.epochs, a.2.2.slots, a.1⟩ f2 (by omega) hM) fun _ => ?_
  have f3 := logPut_fit f2 M ⟨W.cn.value + 1, lastE a.2.2.ks.epochs, a.2.2.slots, a.1⟩
  generalize logPut { a.2.2 with pw := bb.2.1, sd := bb.2.2 } M ⟨W.cn.value + 1, lastE a.2.2.ks.epochs, a.2.2.slots, a.1⟩ = l at *
  refine nf ?_
  refine st ?_
  refine iw ?_ ?_ <;> intro h3
  · rw [hW, if_neg h3]
    (first | exact retU | exact retB)
  rw [if_pos h3] at hW
  refine st ?_
  refine st ?_
  refine st ?_
  refine fn (k101 ad.s ad.p l.2.1.pw l.2.1.sd (f3.sd.ok f3.sl (by omega))) fun _ => ?_
  generalize barS l.2.1.pw l.2.1.sd = b2 at *
  refine st ?_
  refine iw ?_ ?_ <;> intro h4
  · rw [hW, if_neg (by rw [h4]; decide)]
    (first | exact retU | exact retB)
  rw [if_pos h4] at hW
  refine st ?_
  refine st ?_
  refine st ?_
  refine fn (k103 ad.c ad.p b2.2.1 l.2.1.cn) fun _ => ?_
  generalize bump b2.2.1 l.2.1.cn = c at *
  refine st ?_
  refine iw ?_ ?_ <;> intro h5
  · rw [hW, if_neg (by rw [h5]; decide)]
    (first | exact retU | exact retB)
  · rw [hW, if_pos h5]
    (first | exact retU | exact retB)
end Go.Lb
