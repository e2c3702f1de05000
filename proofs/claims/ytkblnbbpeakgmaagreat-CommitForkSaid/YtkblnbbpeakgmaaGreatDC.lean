/- Plain facts: what is committed is loaded. No statement of the seat is proved in this file. -/
import Derived.Test.YtkblnbbpeakgmaaGreatDB
set_option linter.all false
namespace Go.Lb

theorem gL {n a i : Int} (hn : isG n) (ha : 0 ≤ a ∧ a < 2) (hi : 0 ≤ i ∧ i < n) : gLeaf n a i = n * 32 + a * (n * 64) + i * 32 := by unfold gLeaf; rw [if_pos ⟨⟨hn, ha⟩, hn, hi⟩]
theorem gN {n a : Int} (hn : isG n) (ha : 0 ≤ a ∧ a < 2) : gNode n a 0 = n * 32 + a * (n * 64) + n * 32 := by
  unfold gNode; rw [if_pos ⟨⟨hn, ha⟩, hn, by omega⟩]; omega
theorem gR {n i : Int} (hn : isG n) (hi : 0 ≤ i ∧ i < 2) : gRec n i = n * 160 + i * 60 := by unfold gRec; rw [if_pos ⟨hn, hi⟩]
theorem gS {n : Int} (hn : isG n) : gSize n = n * 160 + 120 := by unfold gSize; rw [if_pos hn]

/-- what is committed -/
structure Cmt (W : Wd) (ls : List Leaf) (no : Nonce) (s : Sealed) (ep : UInt32) (top key : Pair) : Prop where
  pos : W.cn.value ≠ 0
  len : (ls.length : Int) = W.slots
  ok : okLs ls = true
  rc : sub (snapS W.sd) (placeOf W.slots W.cn.value).toNat 60 = recBytes no s
  sl : no.sl = 65535
  sb : s.bytes.length = 32
  boot : shr64 no.ver 32 = W.cn.at'
  hky : keyP W.ks no.ep = (key, true)
  opn : openL W.lk key no [] s = (rootBytes ⟨W.cn.value, ep, W.slots, top⟩, true)
  area : ∀ i (h : i < ls.length), sub (snapS W.sd) (gLeaf W.slots ((W.cn.value.toNat : Int) % 2) i).toNat 32 = leafBytes ls[i]
  tree : (buildT W.lk (rowsOf ls)).2 = W.lk ∧ (buildT W.lk (rowsOf ls)).1[1]?.getD zPair = top
theorem Cmt.load {W : Wd} {ls : List Leaf} {no : Nonce} {s : Sealed} {ep : UInt32} {top key : Pair} {n : Nat} (h : Cmt W ls no s ep top key) (fit : fitW W n) (hg : W.pw.gone = false) : commitLoad W = (ls, 0, W.lk) := by
  have hs := fit.sl
  have hm : 0 ≤ (W.cn.value.toNat : Int) % 2 ∧ (W.cn.value.toNat : Int) % 2 < 2 := by omega
  have hp : placeOf W.slots W.cn.value = W.slots * 160 + (W.cn.value.toNat : Int) % 2 * 60 := gR hs hm
  have hsz := fit.sd.1
  rw [gS hs] at hsz
  have hin : inS W.sd (placeOf W.slots W.cn.value) 60 := by unfold inS; omega
  have hr : readS W.pw W.sd (placeOf W.slots W.cn.value) 60 = (recBytes no s, true) := by
    unfold readS
    rw [if_pos ⟨hin, hg⟩, ← h.rc]
    rfl
  have hopen : openedW W (recBytes no s) = (⟨W.cn.value, ep, W.slots, top⟩, true) := by
    unfold openedW
    rw [rec_get no s h.sb h.sl]
    simp only [h.hky]
    rw [if_pos ⟨trivial, trivial, h.boot⟩, h.opn, if_pos rfl]
    exact root_get ⟨W.cn.value, ep, W.slots, top⟩ hs
  have hget : logGet W W.cn.value = (⟨W.cn.value, ep, W.slots, top⟩, 0) := by
    unfold logGet
    rw [hr, if_pos rfl, hopen, if_pos ⟨rfl, rfl, rfl⟩]
  have hrows : rowsA W ((W.cn.value.toNat : Int) % 2) W.slots.toNat = rowsOf ls := by
    have hl : W.slots.toNat = ls.length := by have := h.len; omega
    rw [hl]
    apply List.ext_getElem
    · rw [rowsA_len, rowsOf_len]
    · intro i h1 h2
      rw [rowsA_len] at h1
      simp only [rowsA, rowsOf, List.getElem_map, List.getElem_range]
      exact h.area i h1
  have hokr : okRows (rowsOf ls) = true := okRows_yes fun k hk => by
    have hk' : k < ls.length := by rwa [rowsOf_len] at hk
    have : (rowsOf ls)[k] = leafBytes ls[k] := by simp [rowsOf]
    rw [this, leaf_get (okLs_get h.ok hk')]
  have hgo : leafGo (rowsOf ls) W.slots.toNat = ls := by
    have hl : W.slots.toNat = ls.length := by have := h.len; omega
    rw [hl]
    apply List.ext_getElem
    · rw [leafGo_len]
    · intro i h1 h2
      simp only [leafGo, List.getElem_map, List.getElem_range]
      have : (rowsOf ls)[i]?.getD [] = leafBytes ls[i] := by rw [List.getElem?_eq_getElem (by rw [rowsOf_len]; exact h2)]; simp [rowsOf]
      rw [this, leaf_get (okLs_get h.ok h2)]
  unfold commitLoad
  rw [if_neg (by rw [hg]; decide), if_neg h.pos, hget, if_pos rfl]
  unfold areaRead
  rw [if_pos hm, if_neg (by rw [hg]; decide), hrows, if_pos h.tree.2, if_pos hokr, hgo, h.tree.1]
theorem Cmt.keep {W W' : Wd} {ls : List Leaf} {no : Nonce} {s : Sealed} {ep : UInt32} {top key : Pair} (h : Cmt W ls no s ep top key) (hs : W'.slots = W.slots) (hv : W'.cn.value = W.cn.value) (ha : W'.cn.at' = W.cn.at') (hk : keyP W'.ks no.ep = keyP W.ks no.ep) (hl : lkLe W.lk W'.lk)
    (hr : sub (snapS W'.sd) (placeOf W.slots W.cn.value).toNat 60 = sub (snapS W.sd) (placeOf W.slots W.cn.value).toNat 60)
    (hx : ∀ i : Nat, (i : Int) < W.slots → sub (snapS W'.sd) (gLeaf W.slots ((W.cn.value.toNat : Int) % 2) i).toNat 32 = sub (snapS W.sd) (gLeaf W.slots ((W.cn.value.toNat : Int) % 2) i).toNat 32) : Cmt W' ls no s ep top key := by
  have hb : buildT W'.lk (rowsOf ls) = ((buildT W.lk (rowsOf ls)).1, W'.lk) := build_again (by rw [h.tree.1]; exact hl)
  have hlen := h.len
  refine ⟨by rw [hv]; exact h.pos, by rw [hs]; exact h.len, h.ok, by rw [hs, hv, hr]; exact h.rc, h.sl, h.sb, by rw [ha]; exact h.boot, by rw [hk]; exact h.hky, ?_, ?_, ?_⟩
  · rw [hs, hv]
    exact open_again hl h.opn
  · intro i hi
    rw [hs, hv, hx i (by omega)]
    exact h.area i hi
  · rw [hb]
    exact ⟨rfl, h.tree.2⟩

/-! ### power that is on -/
def pwOn (w : Pw) : Prop := w.gone = false ∧ w.fuse = false
def step (w : Pw) : Pw := { w with steps := w64 (w.steps + 1) }
theorem spend_on {w : Pw} (h : pwOn w) : spend w = (true, step w) := by
  obtain ⟨h1, h2⟩ := h
  unfold spend step
  simp [h1, h2]
theorem step_on {w : Pw} (h : pwOn w) : pwOn (step w) := h
theorem write_on {w : Pw} (h : pwOn w) {x : Sd} {off : Int} {bs : List UInt8} (hi : inS x off bs.length) : writeS w x off bs = (true, step w, { x with waits := x.waits ++ [⟨off, bs⟩], trace := x.trace ++ [⟨off, bs⟩] }) := by
  unfold writeS
  rw [if_pos hi, spend_on h, if_pos rfl]
theorem bar_on {w : Pw} (h : pwOn w) (x : Sd) : barS w x = (true, step w, { settleA x with trace := x.trace ++ [⟨-1, []⟩] }) := by
  unfold barS
  rw [spend_on h, if_pos rfl]
theorem snap_write (x : Sd) (off : Int) (bs : List UInt8) (t : List DOp) : snapS { x with waits := x.waits ++ [⟨off, bs⟩], trace := t } = lay (snapS x) off.toNat bs := by
  unfold snapS
  rw [layOps_snoc]
theorem snap_bar (x : Sd) (t : List DOp) : snapS { settleA x with trace := t } = snapS x := by
  unfold snapS settleA
  simp only
  rw [layOps_nil]
/-- where all leaves, and all nodes, are written -/
theorem area_on {W : Wd} {n : Nat} {a : Int} {ls : List Leaf} (fit : fitW W n) (hp : pwOn W.pw) (ha : 0 ≤ a ∧ a < 2) (hl : (ls.length : Int) = W.slots) (hok : okLs ls = true) :
    ∃ sd, areaWrite W a ls = ((buildT W.lk (rowsOf ls)).1[1]?.getD zPair, 0, { W with lk := (buildT W.lk (rowsOf ls)).2, pw := step (step W.pw), sd := sd }) ∧
      snapS sd = lay (lay (snapS W.sd) (gLeaf W.slots a 0).toNat (rowsOf ls).flatten) (gNode W.slots a 0).toNat (sumsOf (buildT W.lk (rowsOf ls)).1) := by
  have hs := fit.sl
  have hsz := fit.sd.1
  rw [gS hs] at hsz
  have h1 := gL hs ha (show 0 ≤ (0 : Int) ∧ (0 : Int) < W.slots by omega)
  have h2 := gN hs ha
  have hf := flat_rows (ls := ls)
  have hsm := sums_len (l := (buildT W.lk (rowsOf ls)).1)
  rw [buildT_len, rowsOf_len] at hsm
  have ha' : a * (W.slots * 64) = 0 ∨ a * (W.slots * 64) = W.slots * 64 := by
    rcases (show a = 0 ∨ a = 1 by omega) with rfl | rfl
    · left; omega
    · right; omega
  have hi1 : inS W.sd (gLeaf W.slots a 0) (rowsOf ls).flatten.length := by unfold inS; omega
  unfold areaWrite
  rw [if_pos ⟨ha, hl, hok⟩, write_on hp hi1, if_pos rfl]
  simp only
  rw [write_on (step_on hp) (by unfold inS; simp only; omega), if_pos rfl]
  refine ⟨_, rfl, ?_⟩
  rw [snap_write, snap_write]
theorem ver_boot {b : UInt64} {k : Int} (hb : b.toNat < 4294967296) (hk : 0 ≤ k ∧ k < 4294967296) : shr64 (shl64 b 32 + UInt64.ofInt k) 32 = b := by
  apply UInt64.toNat_inj.1
  simp only [shr64, shl64, UInt64.ofInt, UInt64.toNat_add, UInt64.toNat_ofNat']
  omega
theorem next_on {M : Mkr} (h : 0 ≤ M.n ∧ M.n < 100) (ep : UInt32) : nextN M ep 65535 = (⟨ep, 65535, shl64 M.boot 32 + UInt64.ofInt (M.n + 1)⟩, 0, { M with n := M.n + 1 }) := by
  unfold nextN
  rw [if_neg (by omega), if_neg (by omega)]
  rfl
theorem next_end {M : Mkr} (h : M.n = 100) (ep : UInt32) : nextN M ep 65535 = (zNonce, 6, M) := by
  unfold nextN
  rw [if_neg (by omega), if_pos (by omega)]
theorem logPut_eq {W : Wd} {M M' : Mkr} {r : Root} {no : Nonce} {ky : Pair} {sL : (Sealed × Bool) × Lk} {rc : List UInt8} {p : Pw} {sd : Sd} (h1 : isG r.slots ∧ r.slots = W.slots) (h2 : nextN M (lastE W.ks.epochs) 65535 = (no, 0, M')) (h3 : (keyP W.ks (lastE W.ks.epochs)).1 = ky)
    (h4 : sealL W.lk ky no [] (rootBytes r) = sL) (h5 : (putRec no sL.1.1).1 = rc) (h6 : writeS W.pw W.sd (placeOf W.slots r.count) rc = (true, p, sd)) : logPut W M r = (0, { W with lk := sL.2, pw := p, sd := sd }, M') := by
  subst h3 h4 h5
  unfold logPut
  rw [if_pos h1]
  simp only [keyW, h2, h6, if_true]
theorem logPut_err {W : Wd} {M M' : Mkr} {r : Root} {no : Nonce} {e : Int} (h1 : isG r.slots ∧ r.slots = W.slots) (h2 : nextN M (lastE W.ks.epochs) 65535 = (no, e, M')) (he : e ≠ 0) : logPut W M r = (e, W, M') := by
  unfold logPut
  rw [if_pos h1]
  simp only [keyW, h2, he, if_false]
theorem commitDo_eq {W W1 W2 : Wd} {M M2 : Mkr} {ls : List Leaf} {top : Pair} {p2 p3 p4 : Pw} {sd2 sd3 : Sd} {c4 : Cn} {a : Int} (ha : ((W.cn.value + 1).toNat : Int) % 2 = a) (h1 : areaWrite W a ls = (top, 0, W1)) (h2 : barS W1.pw W1.sd = (true, p2, sd2))
    (h3 : logPut { W1 with pw := p2, sd := sd2 } M ⟨W.cn.value + 1, lastE W1.ks.epochs, W1.slots, top⟩ = (0, W2, M2)) (h4 : barS W2.pw W2.sd = (true, p3, sd3)) (h5 : bump p3 W2.cn = (true, p4, c4)) :
    commitDo W M ls = (0, { W2 with pw := p4, sd := sd3, cn := c4 }, M2) := by
  unfold commitDo
  simp only [ha, h1, h2, h3, h4, h5, if_true]
theorem commitDo_err {W W1 W2 : Wd} {M M2 : Mkr} {ls : List Leaf} {top : Pair} {p2 : Pw} {sd2 : Sd} {e a : Int} (ha : ((W.cn.value + 1).toNat : Int) % 2 = a) (h1 : areaWrite W a ls = (top, 0, W1)) (h2 : barS W1.pw W1.sd = (true, p2, sd2))
    (h3 : logPut { W1 with pw := p2, sd := sd2 } M ⟨W.cn.value + 1, lastE W1.ks.epochs, W1.slots, top⟩ = (e, W2, M2)) (he : e ≠ 0) : commitDo W M ls = (e, W2, M2) := by
  unfold commitDo
  simp only [ha, h1, h2, h3, he, if_true, if_false]
/-- what a commit leaves as it was -/
structure After (W W' : Wd) : Prop where
  slots : W'.slots = W.slots
  ks : W'.ks = W.ks
  dk : W'.dk = W.dk
  boots : W'.cn.boots = W.cn.boots
  on : pwOn W'.pw
  waits : W'.sd.waits = []
  num : numL W'.lk
  le : lkLe W.lk W'.lk
  data : ∀ o k : Nat, (o : Int) + k ≤ W.slots * 32 → sub (snapS W'.sd) o k = sub (snapS W.sd) o k
theorem commit_on {W : Wd} {M : Mkr} {ls : List Leaf} {n : Nat} (fit : fitW W n) (hn : n ≤ 2 ^ 29) (hp : pwOn W.pw) (hl : (ls.length : Int) = W.slots) (hok : okLs ls = true) (hnum : numL W.lk)
    (hkey : (keyP W.ks (lastE W.ks.epochs)).2 = true) (hMb : M.boot = W.cn.boots) (hb : W.cn.boots.toNat < 4294967296) (hMn : 0 ≤ M.n ∧ M.n < 100) (hv : W.cn.value.toNat < 2 ^ 62) :
    ∃ W' no s top key, commitDo W M ls = (0, W', { M with n := M.n + 1 }) ∧ Cmt W' ls no s (lastE W.ks.epochs) top key ∧ After W W' ∧ W'.cn = ⟨W.cn.value + 1, W.cn.boots, W.cn.boots⟩ ∧ no.ep = lastE W.ks.epochs := by
  have hs := fit.sl
  have hc : (W.cn.value + 1).toNat = W.cn.value.toNat + 1 := by rw [UInt64.toNat_add]; have : (1 : UInt64).toNat = 1 := rfl; omega
  have ha : 0 ≤ ((W.cn.value + 1).toNat : Int) % 2 ∧ ((W.cn.value + 1).toNat : Int) % 2 < 2 := by omega
  obtain ⟨sd1, e1, hsnap1⟩ := area_on fit hp ha hl hok
  have f1 := areaWrite_fit fit (((W.cn.value + 1).toNat : Int) % 2) ls
  have hsl := snap_len fit.sd.2.2.2
  have hsz := fit.sd.1
  rw [gS hs] at hsz
  have g1 := gL hs ha (show 0 ≤ (0 : Int) ∧ (0 : Int) < W.slots by omega)
  have g2 := gN hs ha
  have g3 : placeOf W.slots (W.cn.value + 1) = W.slots * 160 + ((W.cn.value + 1).toNat : Int) % 2 * 60 := gR hs ha
  have ga : ∀ i : Nat, (i : Int) < W.slots → gLeaf W.slots (((W.cn.value + 1).toNat : Int) % 2) i = W.slots * 32 + ((W.cn.value + 1).toNat : Int) % 2 * (W.slots * 64) + i * 32 := fun i hi => gL hs ha ⟨by omega, hi⟩
  have hf := flat_rows (ls := ls)
  have hsm := sums_len (l := (buildT W.lk (rowsOf ls)).1)
  rw [buildT_len, rowsOf_len] at hsm
  have hble := build_le W.lk (rowsOf ls)
  have hbn := build_num hnum (rowsOf ls)
  have hag : ∀ T, lkLe (buildT W.lk (rowsOf ls)).2 T → buildT T (rowsOf ls) = ((buildT W.lk (rowsOf ls)).1, T) := fun T h => build_again h
  have hfb := (fitW.lk f1)
  rw [e1] at f1 hfb
  simp only at hfb
  have f2 := barS_fitW f1
  generalize htop : (buildT W.lk (rowsOf ls)).1[1]?.getD zPair = top at *
  generalize hbt : buildT W.lk (rowsOf ls) = bt at *
  rw [bar_on (step_on (step_on hp))] at f2
  simp only at f1 f2
  generalize hae : ((W.cn.value + 1).toNat : Int) % 2 = a at *
  generalize hky : keyP W.ks (lastE W.ks.epochs) = ky at *
  generalize hr : (⟨W.cn.value + 1, lastE W.ks.epochs, W.slots, top⟩ : Root) = r
  generalize hno : (⟨lastE W.ks.epochs, 65535, shl64 M.boot 32 + UInt64.ofInt (M.n + 1)⟩ : Nonce) = no
  have hrl := rootBytes_len r
  obtain ⟨so1, so2, so3⟩ := sea_open hbn ky.1 no (head := []) (data := rootBytes r) (by simp) (by omega)
  have hsle := sea_le bt.2 ky.1 no [] (rootBytes r)
  have hsn := sea_num hbn hfb (by omega) ky.1 no [] (rootBytes r)
  rw [hrl] at so2
  generalize hsl2 : sealL bt.2 ky.1 no [] (rootBytes r) = sL at *
  have hrec : putRec no sL.1.1 = (recBytes no sL.1.1, true) := by unfold putRec; rw [if_pos ⟨so2, by rw [← hno]⟩]
  have hrcl := recBytes_len no sL.1.1 so2
  have hsl1 := f2.sd.1
  simp only at hsl1
  rw [gS hs] at hsl1
  have hin : inS { settleA sd1 with trace := sd1.trace ++ [⟨-1, []⟩] } (placeOf W.slots (W.cn.value + 1)) (recBytes no sL.1.1).length := by
    unfold inS; simp only; rw [hrcl]; omega
  have hw := write_on (step_on (step_on (step_on hp))) hin
  have hrc : r.count = W.cn.value + 1 := by rw [← hr]
  have hlog := logPut_eq (W := { W with lk := bt.2, pw := step (step (step W.pw)), sd := { settleA sd1 with trace := sd1.trace ++ [⟨-1, []⟩] } }) (M := M) (r := r) (no := no) (ky := ky.1) (sL := sL) ⟨by rw [← hr]; exact hs, by rw [← hr]⟩
    (by rw [← hno]; exact next_on hMn _) (by simp only [hky]) hsl2 (by rw [hrec]) (by rw [hrc]; exact hw)
  have hbump : bump (step (step (step (step (step W.pw))))) W.cn = (true, step (step (step (step (step (step W.pw))))), ⟨W.cn.value + 1, W.cn.boots, W.cn.boots⟩) := by
    unfold bump
    rw [spend_on (step_on (step_on (step_on (step_on (step_on hp)))))]
    rfl
  have hlog' := hlog
  rw [← hr] at hlog'
  have hdo := commitDo_eq (W2 := { W with lk := sL.2, pw := step (step (step (step W.pw))), sd := { settleA sd1 with waits := (settleA sd1).waits ++ [⟨placeOf W.slots (W.cn.value + 1), recBytes no sL.1.1⟩], trace := sd1.trace ++ [⟨-1, []⟩] ++ [⟨placeOf W.slots (W.cn.value + 1), recBytes no sL.1.1⟩] } }) hae e1 (bar_on (step_on (step_on hp)) sd1) hlog' (bar_on (step_on (step_on (step_on (step_on hp)))) _) hbump
  have hsn2 : ∀ t, snapS { settleA { settleA sd1 with waits := (settleA sd1).waits ++ [⟨placeOf W.slots (W.cn.value + 1), recBytes no sL.1.1⟩], trace := sd1.trace ++ [⟨-1, []⟩] ++ [⟨placeOf W.slots (W.cn.value + 1), recBytes no sL.1.1⟩] } with trace := t } = lay (lay (lay (snapS W.sd) (gLeaf W.slots a 0).toNat (rowsOf ls).flatten) (gNode W.slots a 0).toNat (sumsOf bt.1)) (placeOf W.slots (W.cn.value + 1)).toNat (recBytes no sL.1.1) := by
    intro t
    rw [snap_bar, snap_write { settleA sd1 with trace := sd1.trace ++ [⟨-1, []⟩] }]
    rw [← hsnap1, snap_bar]
  refine ⟨_, no, sL.1.1, top, ky.1, hdo, ?_, ?_, rfl, by rw [← hno]⟩
  · have hx : a * (W.slots * 64) = 0 ∨ a * (W.slots * 64) = W.slots * 64 := by
      rcases (show a = 0 ∨ a = 1 by omega) with rfl | rfl
      · left; omega
      · right; omega
    have hl1 : (gLeaf W.slots a 0).toNat + (rowsOf ls).flatten.length ≤ (snapS W.sd).length := by omega
    have hl2 := lay_len (xs := snapS W.sd) (ys := (rowsOf ls).flatten) (i := (gLeaf W.slots a 0).toNat) (by omega)
    have hl3 : (gNode W.slots a 0).toNat + (sumsOf bt.1).length ≤ (lay (snapS W.sd) (gLeaf W.slots a 0).toNat (rowsOf ls).flatten).length := by omega
    have hl4 := lay_len (xs := lay (snapS W.sd) (gLeaf W.slots a 0).toNat (rowsOf ls).flatten) (ys := sumsOf bt.1) (i := (gNode W.slots a 0).toNat) (by omega)
    have hl5 : (placeOf W.slots (W.cn.value + 1)).toNat + (recBytes no sL.1.1).length ≤ (lay (lay (snapS W.sd) (gLeaf W.slots a 0).toNat (rowsOf ls).flatten) (gNode W.slots a 0).toNat (sumsOf bt.1)).length := by omega
    refine ⟨?_, hl, hok, ?_, by rw [← hno], so2, ?_, ?_, ?_, ?_, ?_⟩
    · intro h
      have := congrArg UInt64.toNat h
      rw [hc] at this
      exact absurd this (by simp)
    · simp only
      rw [hsn2, sub_lay_in hl5 (Nat.le_refl _) (by omega), Nat.sub_self, ← hrcl, sub_all]
    · rw [← hno]
      simp only
      rw [ver_boot (by rw [hMb]; exact hb) (by omega), hMb]
    · rw [← hno]
      simp only
      rw [hky]
      exact Prod.ext rfl hkey
    · simp only
      rw [so3, ← hr]
    · intro i hi
      simp only
      rw [hae, hsn2, ga i (by omega)]
      rw [sub_lay_ne hl5 (by omega), sub_lay_ne hl3 (by omega), sub_lay_in hl1 (by omega) (by omega)]
      rw [show (W.slots * 32 + a * (W.slots * 64) + (i : Int) * 32).toNat - (gLeaf W.slots a 0).toNat = 32 * i from by omega]
      exact sub_flat hi
    · simp only
      rw [hag _ hsle]
      exact ⟨rfl, htop⟩
  · refine ⟨rfl, rfl, rfl, rfl, hp, rfl, hsn, lkLe_trans hble hsle, ?_⟩
    intro o k hok'
    have hx : a * (W.slots * 64) = 0 ∨ a * (W.slots * 64) = W.slots * 64 := by
      rcases (show a = 0 ∨ a = 1 by omega) with rfl | rfl
      · left; omega
      · right; omega
    have hl1 : (gLeaf W.slots a 0).toNat + (rowsOf ls).flatten.length ≤ (snapS W.sd).length := by omega
    have hl2 := lay_len (xs := snapS W.sd) (ys := (rowsOf ls).flatten) (i := (gLeaf W.slots a 0).toNat) (by omega)
    have hl3 : (gNode W.slots a 0).toNat + (sumsOf bt.1).length ≤ (lay (snapS W.sd) (gLeaf W.slots a 0).toNat (rowsOf ls).flatten).length := by omega
    have hl4 := lay_len (xs := lay (snapS W.sd) (gLeaf W.slots a 0).toNat (rowsOf ls).flatten) (ys := sumsOf bt.1) (i := (gNode W.slots a 0).toNat) (by omega)
    have hl5 : (placeOf W.slots (W.cn.value + 1)).toNat + (recBytes no sL.1.1).length ≤ (lay (lay (snapS W.sd) (gLeaf W.slots a 0).toNat (rowsOf ls).flatten) (gNode W.slots a 0).toNat (sumsOf bt.1)).length := by omega
    simp only
    rw [hsn2, sub_lay_ne hl5 (by omega), sub_lay_ne hl3 (by omega), sub_lay_ne hl1 (by omega)]
/-- no number is left: what was committed stays -/
theorem commit_end {W : Wd} {M : Mkr} {ls : List Leaf} {n : Nat} (fit : fitW W n) (hp : pwOn W.pw) (hl : (ls.length : Int) = W.slots) (hok : okLs ls = true) (hnum : numL W.lk) (hMn : M.n = 100) (hv : W.cn.value.toNat < 2 ^ 62) :
    ∃ W', commitDo W M ls = (6, W', M) ∧ After W W' ∧ W'.cn = W.cn ∧ ∀ l0 no s ep top key, Cmt W l0 no s ep top key → Cmt W' l0 no s ep top key := by
  have hs := fit.sl
  have hc : (W.cn.value + 1).toNat = W.cn.value.toNat + 1 := by rw [UInt64.toNat_add]; have : (1 : UInt64).toNat = 1 := rfl; omega
  have ha : 0 ≤ ((W.cn.value + 1).toNat : Int) % 2 ∧ ((W.cn.value + 1).toNat : Int) % 2 < 2 := by omega
  obtain ⟨sd1, e1, hsnap1⟩ := area_on fit hp ha hl hok
  have hsl := snap_len fit.sd.2.2.2
  have hsz := fit.sd.1
  rw [gS hs] at hsz
  have g1 := gL hs ha (show 0 ≤ (0 : Int) ∧ (0 : Int) < W.slots by omega)
  have g2 := gN hs ha
  have hm : 0 ≤ (W.cn.value.toNat : Int) % 2 ∧ (W.cn.value.toNat : Int) % 2 < 2 := by omega
  have g3 : placeOf W.slots W.cn.value = W.slots * 160 + (W.cn.value.toNat : Int) % 2 * 60 := gR hs hm
  have ga : ∀ i : Nat, (i : Int) < W.slots → gLeaf W.slots ((W.cn.value.toNat : Int) % 2) i = W.slots * 32 + (W.cn.value.toNat : Int) % 2 * (W.slots * 64) + i * 32 := fun i hi => gL hs hm ⟨by omega, hi⟩
  have hf := flat_rows (ls := ls)
  have hsm := sums_len (l := (buildT W.lk (rowsOf ls)).1)
  rw [buildT_len, rowsOf_len] at hsm
  have hble := build_le W.lk (rowsOf ls)
  have hbn := build_num hnum (rowsOf ls)
  have hpar : ((W.cn.value + 1).toNat : Int) % 2 = 1 - (W.cn.value.toNat : Int) % 2 := by rw [hc]; omega
  generalize buildT W.lk (rowsOf ls) = bt at *
  generalize hae : ((W.cn.value + 1).toNat : Int) % 2 = a at *
  generalize ha0 : (W.cn.value.toNat : Int) % 2 = a0 at *
  have hx : a * (W.slots * 64) = 0 ∧ a0 * (W.slots * 64) = W.slots * 64 ∧ a0 = 1 ∨ a * (W.slots * 64) = W.slots * 64 ∧ a0 * (W.slots * 64) = 0 ∧ a0 = 0 := by
    rcases (show a = 0 ∨ a = 1 by omega) with h | h
    · left
      have : a0 = 1 := by omega
      subst h this
      omega
    · right
      have : a0 = 0 := by omega
      subst h this
      omega
  have hl1 : (gLeaf W.slots a 0).toNat + (rowsOf ls).flatten.length ≤ (snapS W.sd).length := by omega
  have hl2 := lay_len (xs := snapS W.sd) (ys := (rowsOf ls).flatten) (i := (gLeaf W.slots a 0).toNat) (by omega)
  have hl3 : (gNode W.slots a 0).toNat + (sumsOf bt.1).length ≤ (lay (snapS W.sd) (gLeaf W.slots a 0).toNat (rowsOf ls).flatten).length := by omega
  have herr := logPut_err (W := { W with lk := bt.2, pw := step (step (step W.pw)), sd := { settleA sd1 with trace := sd1.trace ++ [⟨-1, []⟩] } }) (M := M) (r := ⟨W.cn.value + 1, lastE W.ks.epochs, W.slots, bt.1[1]?.getD zPair⟩) ⟨hs, rfl⟩ (next_end hMn _) (by decide)
  have hdo := commitDo_err hae e1 (bar_on (step_on (step_on hp)) sd1) herr (by decide)
  refine ⟨_, hdo, ?_, rfl, ?_⟩
  · refine ⟨rfl, rfl, rfl, rfl, hp, rfl, hbn, hble, ?_⟩
    intro o k hok'
    simp only
    rw [snap_bar, hsnap1, sub_lay_ne hl3 (by omega), sub_lay_ne hl1 (by omega)]
  · intro l0 no s ep top key h
    refine h.keep rfl rfl rfl rfl hble ?_ ?_
    · simp only
      rw [snap_bar, hsnap1, sub_lay_ne hl3 (by omega), sub_lay_ne hl1 (by omega)]
    · intro i hi
      simp only
      rw [ha0, ga i hi, snap_bar, hsnap1, sub_lay_ne hl3 (by omega), sub_lay_ne hl1 (by omega)]
end Go.Lb
