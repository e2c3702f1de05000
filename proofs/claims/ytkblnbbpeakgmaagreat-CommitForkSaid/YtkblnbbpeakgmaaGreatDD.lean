/- Plain facts: a commit while the power lasts for five steps or more; the sixth is the Bump. No statement of the seat is proved in this file. -/
import Derived.Test.YtkblnbbpeakgmaaGreatDC
set_option linter.all false
namespace Go.Lb

/-- the power lasts for j steps more -/
def canP (w : Pw) (j : Nat) : Prop := w.gone = false ∧ (w.fuse = true → (j : Int) ≤ w.left ∧ w.left < 2 ^ 62)
def stp (w : Pw) : Pw := (spend w).2
theorem can_on {w : Pw} (h : pwOn w) (j : Nat) : canP w j := ⟨h.1, fun h' => by rw [h.2] at h'; cases h'⟩
theorem can_le {w : Pw} {i j : Nat} (h : canP w j) (hi : i ≤ j) : canP w i := ⟨h.1, fun h' => by have := h.2 h'; omega⟩
theorem spend_can {w : Pw} {j : Nat} (h : canP w (j + 1)) : spend w = (true, stp w) := by
  obtain ⟨h1, h2⟩ := h
  unfold stp spend
  rw [if_neg (by rw [h1]; decide)]
  split
  · rename_i hf
    have := h2 hf
    rw [if_neg (by omega)]
  · rfl
theorem w64_id {n : Int} (h : -9223372036854775808 ≤ n ∧ n ≤ 9223372036854775807) : w64 n = n := i64_wrap h
theorem can_stp {w : Pw} {j : Nat} (h : canP w (j + 1)) : canP (stp w) j := by
  obtain ⟨h1, h2⟩ := h
  unfold stp spend
  rw [if_neg (by rw [h1]; decide)]
  split
  · rename_i hf
    have := h2 hf
    rw [if_neg (by omega)]
    refine ⟨h1, fun _ => ?_⟩
    simp only
    rw [w64_id (by omega)]
    omega
  · rename_i hf
    exact ⟨h1, fun h' => absurd h' hf⟩
theorem write_can {w : Pw} {j : Nat} (h : canP w (j + 1)) {x : Sd} {off : Int} {bs : List UInt8} (hi : inS x off bs.length) : writeS w x off bs = (true, stp w, { x with waits := x.waits ++ [⟨off, bs⟩], trace := x.trace ++ [⟨off, bs⟩] }) := by
  unfold writeS
  rw [if_pos hi, spend_can h, if_pos rfl]
theorem bar_can {w : Pw} {j : Nat} (h : canP w (j + 1)) (x : Sd) : barS w x = (true, stp w, { settleA x with trace := x.trace ++ [⟨-1, []⟩] }) := by
  unfold barS
  rw [spend_can h, if_pos rfl]
/-- where all leaves, and all nodes, are written -/
theorem area_can {W : Wd} {n : Nat} {a : Int} {ls : List Leaf} (fit : fitW W n) (hp : canP W.pw 2) (ha : 0 ≤ a ∧ a < 2) (hl : (ls.length : Int) = W.slots) (hok : okLs ls = true) :
    ∃ sd, areaWrite W a ls = ((buildT W.lk (rowsOf ls)).1[1]?.getD zPair, 0, { W with lk := (buildT W.lk (rowsOf ls)).2, pw := stp (stp W.pw), sd := sd }) ∧
      snapS sd = lay (lay (snapS W.sd) (gLeaf W.slots a 0).toNat (rowsOf ls).flatten) (gNode W.slots a 0).toNat (sumsOf (buildT W.lk (rowsOf ls)).1) := by
  have hs := fit.sl
  have hsz := fit.sd.1
  rw [gS hs] at hsz
  have h1 := gL hs ha (show 0 ≤ (0 : Int) ∧ (0 : Int) < W.slots by omega)
  have h2 := gN hs ha
  have hf := flat_rows (ls := ls)
  have hsm := sums_len (l := (buildT W.lk (rowsOf ls)).1)
  rw [buildT_len, rowsOf_len] at hsm
  have ha' : a * (W.slots * 64) = 0 ∨ a * (W.slots * 64) = W.slots * 64 := by
    rcases (show a = 0 ∨ a = 1 by omega) with rfl | rfl
    · left; omega
    · right; omega
  have hi1 : inS W.sd (gLeaf W.slots a 0) (rowsOf ls).flatten.length := by unfold inS; omega
  unfold areaWrite
  rw [if_pos ⟨ha, hl, hok⟩, write_can hp hi1, if_pos rfl]
  simp only
  rw [write_can (can_stp hp) (by unfold inS; simp only; omega), if_pos rfl]
  refine ⟨_, rfl, ?_⟩
  rw [snap_write, snap_write]
theorem commitDo_pre {W W1 W2 : Wd} {M M2 : Mkr} {ls : List Leaf} {top : Pair} {p2 p3 : Pw} {sd2 sd3 : Sd} {a : Int} (ha : ((W.cn.value + 1).toNat : Int) % 2 = a) (h1 : areaWrite W a ls = (top, 0, W1)) (h2 : barS W1.pw W1.sd = (true, p2, sd2))
    (h3 : logPut { W1 with pw := p2, sd := sd2 } M ⟨W.cn.value + 1, lastE W1.ks.epochs, W1.slots, top⟩ = (0, W2, M2)) (h4 : barS W2.pw W2.sd = (true, p3, sd3)) :
    commitDo W M ls = ((if (bump p3 W2.cn).1 = true then 0 else 7), { W2 with pw := (bump p3 W2.cn).2.1, sd := sd3, cn := (bump p3 W2.cn).2.2 }, M2) := by
  unfold commitDo
  simp only [ha, h1, h2, h3, h4, if_true]
/-- what a commit leaves as it was -/
structure After2 (W W' : Wd) : Prop where
  slots : W'.slots = W.slots
  ks : W'.ks = W.ks
  dk : W'.dk = W.dk
  cn : W'.cn = W.cn
  waits : W'.sd.waits = []
  num : numL W'.lk
  le : lkLe W.lk W'.lk
  data : ∀ o k : Nat, (o : Int) + k ≤ W.slots * 32 → sub (snapS W'.sd) o k = sub (snapS W.sd) o k
/-- all of a commit but the Bump -/
theorem commit_pre {W : Wd} {M : Mkr} {ls : List Leaf} {n : Nat} (fit : fitW W n) (hn : n ≤ 2 ^ 29) (hp : canP W.pw 5) (hl : (ls.length : Int) = W.slots) (hok : okLs ls = true) (hnum : numL W.lk)
    (hkey : (keyP W.ks (lastE W.ks.epochs)).2 = true) (hMb : M.boot = W.cn.boots) (hb : W.cn.boots.toNat < 4294967296) (hMn : 0 ≤ M.n ∧ M.n < 100) (hv : W.cn.value.toNat < 2 ^ 62) :
    ∃ W' no s top key, commitDo W M ls = ((if (bump W'.pw W'.cn).1 = true then 0 else 7), { W' with pw := (bump W'.pw W'.cn).2.1, cn := (bump W'.pw W'.cn).2.2 }, { M with n := M.n + 1 }) ∧ W'.pw = stp (stp (stp (stp (stp W.pw)))) ∧
      (∀ pw, Cmt { W' with pw := pw, cn := ⟨W.cn.value + 1, W.cn.boots, W.cn.boots⟩ } ls no s (lastE W.ks.epochs) top key) ∧ After2 W W' ∧ no.ep = lastE W.ks.epochs ∧ fitW W' (n + 50) := by
  have hs := fit.sl
  have hc : (W.cn.value + 1).toNat = W.cn.value.toNat + 1 := by rw [UInt64.toNat_add]; have : (1 : UInt64).toNat = 1 := rfl; omega
  have ha : 0 ≤ ((W.cn.value + 1).toNat : Int) % 2 ∧ ((W.cn.value + 1).toNat : Int) % 2 < 2 := by omega
  obtain ⟨sd1, e1, hsnap1⟩ := area_can fit (can_le hp (by decide)) ha hl hok
  have f1 := areaWrite_fit fit (((W.cn.value + 1).toNat : Int) % 2) ls
  have hsl := snap_len fit.sd.2.2.2
  have hsz := fit.sd.1
  rw [gS hs] at hsz
  have g1 := gL hs ha (show 0 ≤ (0 : Int) ∧ (0 : Int) < W.slots by omega)
  have g2 := gN hs ha
  have g3 : placeOf W.slots (W.cn.value + 1) = W.slots * 160 + ((W.cn.value + 1).toNat : Int) % 2 * 60 := gR hs ha
  have ga : ∀ i : Nat, (i : Int) < W.slots → gLeaf W.slots (((W.cn.value + 1).toNat : Int) % 2) i = W.slots * 32 + ((W.cn.value + 1).toNat : Int) % 2 * (W.slots * 64) + i * 32 := fun i hi => gL hs ha ⟨by omega, hi⟩
  have hf := flat_rows (ls := ls)
  have hsm := sums_len (l := (buildT W.lk (rowsOf ls)).1)
  rw [buildT_len, rowsOf_len] at hsm
  have hble := build_le W.lk (rowsOf ls)
  have hbn := build_num hnum (rowsOf ls)
  have hag : ∀ T, lkLe (buildT W.lk (rowsOf ls)).2 T → buildT T (rowsOf ls) = ((buildT W.lk (rowsOf ls)).1, T) := fun T h => build_again h
  have hfb := (fitW.lk f1)
  rw [e1] at f1 hfb
  simp only at hfb
  have f2 := barS_fitW f1
  generalize htop : (buildT W.lk (rowsOf ls)).1[1]?.getD zPair = top at *
  generalize hbt : buildT W.lk (rowsOf ls) = bt at *
  rw [bar_can (can_stp (can_stp hp))] at f2
  simp only at f1 f2
  generalize hae : ((W.cn.value + 1).toNat : Int) % 2 = a at *
  generalize hky : keyP W.ks (lastE W.ks.epochs) = ky at *
  generalize hr : (⟨W.cn.value + 1, lastE W.ks.epochs, W.slots, top⟩ : Root) = r
  generalize hno : (⟨lastE W.ks.epochs, 65535, shl64 M.boot 32 + UInt64.ofInt (M.n + 1)⟩ : Nonce) = no
  have hrl := rootBytes_len r
  obtain ⟨so1, so2, so3⟩ := sea_open hbn ky.1 no (head := []) (data := rootBytes r) (by simp) (by omega)
  have hsle := sea_le bt.2 ky.1 no [] (rootBytes r)
  have hsn := sea_num hbn hfb (by omega) ky.1 no [] (rootBytes r)
  rw [hrl] at so2
  generalize hsl2 : sealL bt.2 ky.1 no [] (rootBytes r) = sL at *
  have hrec : putRec no sL.1.1 = (recBytes no sL.1.1, true) := by unfold putRec; rw [if_pos ⟨so2, by rw [← hno]⟩]
  have hrcl := recBytes_len no sL.1.1 so2
  have hsl1 := f2.sd.1
  simp only at hsl1
  rw [gS hs] at hsl1
  have hin : inS { settleA sd1 with trace := sd1.trace ++ [⟨-1, []⟩] } (placeOf W.slots (W.cn.value + 1)) (recBytes no sL.1.1).length := by
    unfold inS; simp only; rw [hrcl]; omega
  have hw := write_can (can_stp (can_stp (can_stp hp))) hin
  have hrc : r.count = W.cn.value + 1 := by rw [← hr]
  have hlog := logPut_eq (W := { W with lk := bt.2, pw := stp (stp (stp W.pw)), sd := { settleA sd1 with trace := sd1.trace ++ [⟨-1, []⟩] } }) (M := M) (r := r) (no := no) (ky := ky.1) (sL := sL) ⟨by rw [← hr]; exact hs, by rw [← hr]⟩
    (by rw [← hno]; exact next_on hMn _) (by simp only [hky]) hsl2 (by rw [hrec]) (by rw [hrc]; exact hw)
  have hlog' := hlog
  rw [← hr] at hlog'
  have hb4 := bar_can (can_stp (can_stp (can_stp (can_stp hp)))) ({ settleA sd1 with waits := (settleA sd1).waits ++ [⟨placeOf W.slots (W.cn.value + 1), recBytes no sL.1.1⟩], trace := sd1.trace ++ [⟨-1, []⟩] ++ [⟨placeOf W.slots (W.cn.value + 1), recBytes no sL.1.1⟩] })
  have f3 := logPut_fit f2 M r
  rw [hlog] at f3
  have f4 := barS_fitW f3
  simp only at f4
  rw [hb4] at f4
  have hsn2 : ∀ t, snapS { settleA { settleA sd1 with waits := (settleA sd1).waits ++ [⟨placeOf W.slots (W.cn.value + 1), recBytes no sL.1.1⟩], trace := sd1.trace ++ [⟨-1, []⟩] ++ [⟨placeOf W.slots (W.cn.value + 1), recBytes no sL.1.1⟩] } with trace := t } = lay (lay (lay (snapS W.sd) (gLeaf W.slots a 0).toNat (rowsOf ls).flatten) (gNode W.slots a 0).toNat (sumsOf bt.1)) (placeOf W.slots (W.cn.value + 1)).toNat (recBytes no sL.1.1) := by
    intro t
    rw [snap_bar, snap_write { settleA sd1 with trace := sd1.trace ++ [⟨-1, []⟩] }]
    rw [← hsnap1, snap_bar]
  obtain ⟨sd3, hsd3⟩ : ∃ sd3 : Sd, sd3 = { settleA ({ settleA sd1 with waits := (settleA sd1).waits ++ [⟨placeOf W.slots (W.cn.value + 1), recBytes no sL.1.1⟩], trace := sd1.trace ++ [⟨-1, []⟩] ++ [⟨placeOf W.slots (W.cn.value + 1), recBytes no sL.1.1⟩] }) with trace := sd1.trace ++ [⟨-1, []⟩] ++ [⟨placeOf W.slots (W.cn.value + 1), recBytes no sL.1.1⟩] ++ [⟨-1, []⟩] } := ⟨_, rfl⟩
  have hsn3 := hsn2 (sd1.trace ++ [⟨-1, []⟩] ++ [⟨placeOf W.slots (W.cn.value + 1), recBytes no sL.1.1⟩] ++ [⟨-1, []⟩])
  rw [← hsd3] at hsn3 hb4 f4
  have hdo := commitDo_pre hae e1 (bar_can (can_stp (can_stp hp)) sd1) hlog' hb4
  have hw3 : sd3.waits = [] := by rw [hsd3]; rfl
  clear hsd3 hb4
  refine ⟨{ W with lk := sL.2, pw := stp (stp (stp (stp (stp W.pw)))), sd := sd3 }, no, sL.1.1, top, ky.1, hdo, rfl, fun pw => ?_, ?_, by rw [← hno], f4.mono (by omega)⟩
  · have hx : a * (W.slots * 64) = 0 ∨ a * (W.slots * 64) = W.slots * 64 := by
      rcases (show a = 0 ∨ a = 1 by omega) with rfl | rfl
      · left; omega
      · right; omega
    have hl1 : (gLeaf W.slots a 0).toNat + (rowsOf ls).flatten.length ≤ (snapS W.sd).length := by omega
    have hl2 := lay_len (xs := snapS W.sd) (ys := (rowsOf ls).flatten) (i := (gLeaf W.slots a 0).toNat) (by omega)
    have hl3 : (gNode W.slots a 0).toNat + (sumsOf bt.1).length ≤ (lay (snapS W.sd) (gLeaf W.slots a 0).toNat (rowsOf ls).flatten).length := by omega
    have hl4 := lay_len (xs := lay (snapS W.sd) (gLeaf W.slots a 0).toNat (rowsOf ls).flatten) (ys := sumsOf bt.1) (i := (gNode W.slots a 0).toNat) (by omega)
    have hl5 : (placeOf W.slots (W.cn.value + 1)).toNat + (recBytes no sL.1.1).length ≤ (lay (lay (snapS W.sd) (gLeaf W.slots a 0).toNat (rowsOf ls).flatten) (gNode W.slots a 0).toNat (sumsOf bt.1)).length := by omega
    refine ⟨?_, hl, hok, ?_, by rw [← hno], so2, ?_, ?_, ?_, ?_, ?_⟩
    · intro h
      have := congrArg UInt64.toNat h
      rw [hc] at this
      exact absurd this (by simp)
    · simp only
      rw [hsn3, sub_lay_in hl5 (Nat.le_refl _) (by omega), Nat.sub_self, ← hrcl, sub_all]
    · rw [← hno]
      simp only
      rw [ver_boot (by rw [hMb]; exact hb) (by omega), hMb]
    · rw [← hno]
      simp only
      rw [hky]
      exact Prod.ext rfl hkey
    · simp only
      rw [so3, ← hr]
    · intro i hi
      simp only
      rw [hae, hsn3, ga i (by omega)]
      rw [sub_lay_ne hl5 (by omega), sub_lay_ne hl3 (by omega), sub_lay_in hl1 (by omega) (by omega)]
      rw [show (W.slots * 32 + a * (W.slots * 64) + (i : Int) * 32).toNat - (gLeaf W.slots a 0).toNat = 32 * i from by omega]
      exact sub_flat hi
    · simp only
      rw [hag _ hsle]
      exact ⟨rfl, htop⟩
  · refine ⟨rfl, rfl, rfl, rfl, hw3, hsn, lkLe_trans hble hsle, ?_⟩
    intro o k hok'
    have hx : a * (W.slots * 64) = 0 ∨ a * (W.slots * 64) = W.slots * 64 := by
      rcases (show a = 0 ∨ a = 1 by omega) with rfl | rfl
      · left; omega
      · right; omega
    have hl1 : (gLeaf W.slots a 0).toNat + (rowsOf ls).flatten.length ≤ (snapS W.sd).length := by omega
    have hl2 := lay_len (xs := snapS W.sd) (ys := (rowsOf ls).flatten) (i := (gLeaf W.slots a 0).toNat) (by omega)
    have hl3 : (gNode W.slots a 0).toNat + (sumsOf bt.1).length ≤ (lay (snapS W.sd) (gLeaf W.slots a 0).toNat (rowsOf ls).flatten).length := by omega
    have hl4 := lay_len (xs := lay (snapS W.sd) (gLeaf W.slots a 0).toNat (rowsOf ls).flatten) (ys := sumsOf bt.1) (i := (gNode W.slots a 0).toNat) (by omega)
    have hl5 : (placeOf W.slots (W.cn.value + 1)).toNat + (recBytes no sL.1.1).length ≤ (lay (lay (snapS W.sd) (gLeaf W.slots a 0).toNat (rowsOf ls).flatten) (gNode W.slots a 0).toNat (sumsOf bt.1)).length := by omega
    simp only
    rw [hsn3, sub_lay_ne hl5 (by omega), sub_lay_ne hl3 (by omega), sub_lay_ne hl1 (by omega)]
end Go.Lb
