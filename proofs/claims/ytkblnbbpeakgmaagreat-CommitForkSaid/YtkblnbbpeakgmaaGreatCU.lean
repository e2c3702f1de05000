/- Contracts: area.Read, log, commit. No statement of the seat is proved in this file. -/
import Derived.Test.YtkblnbbpeakgmaaGreatCT
set_option linter.all false
namespace Go.Lb
open Go.Proofs
attribute [local irreducible] WT blk fzb own frz mp exL isA Ent Tri updE drawE At Kn See SeeS

theorem snap_len {x : Sd} (h : ∀ o ∈ x.waits, okO x.lasts.length o) : (snapS x).length = x.lasts.length := layOps_len _ _ h
def rowA (W : Wd) (a : Int) (i : Nat) : List UInt8 := ((snapS W.sd).drop (gLeaf W.slots a i).toNat).take 32
def rowsA (W : Wd) (a : Int) (i : Nat) : List (List UInt8) := (List.range i).map (rowA W a)
def leafGo (rows : List (List UInt8)) (i : Nat) : List Leaf := (List.range i).map fun k : Nat => (getLeaf (rows[k]?.getD []) (k : Int)).1
def okRows (rows : List (List UInt8)) : Bool := (List.range rows.length).all fun k : Nat => (getLeaf (rows[k]?.getD []) (k : Int)).2
theorem okRows_get {rows : List (List UInt8)} (h : okRows rows = true) {k : Nat} (hk : k < rows.length) : (getLeaf rows[k] k).2 = true := by
  unfold okRows at h
  rw [List.all_eq_true] at h
  have := h k (List.mem_range.2 hk)
  rwa [List.getElem?_eq_getElem hk] at this
theorem okRows_no {rows : List (List UInt8)} {k : Nat} (hk : k < rows.length) (h : (getLeaf rows[k] k).2 = false) : okRows rows = false := by
  cases e : okRows rows with
  | false => rfl
  | true => rw [okRows_get e hk] at h; cases h
theorem okRows_yes {rows : List (List UInt8)} (h : ∀ k (hk : k < rows.length), (getLeaf rows[k] k).2 = true) : okRows rows = true := by
  unfold okRows
  rw [List.all_eq_true]
  intro k hk
  have hk := List.mem_range.1 hk
  rw [List.getElem?_eq_getElem hk]
  exact h k hk
def areaRead (W : Wd) (a : Int) (top : Pair) : List Leaf × Int × Lk :=
  if 0 ≤ a ∧ a < 2 then
    if W.pw.gone = true then ([], 7, W.lk) else
    if (buildT W.lk (rowsA W a W.slots.toNat)).1[1]?.getD zPair = top then
      if okRows (rowsA W a W.slots.toNat) = true then (leafGo (rowsA W a W.slots.toNat) W.slots.toNat, 0, (buildT W.lk (rowsA W a W.slots.toNat)).2) else ([], 3, (buildT W.lk (rowsA W a W.slots.toNat)).2)
    else ([], 3, (buildT W.lk (rowsA W a W.slots.toNat)).2)
  else ([], 1, W.lk)
theorem rowsA_len (W : Wd) (a : Int) (i : Nat) : (rowsA W a i).length = i := by simp [rowsA]
theorem rowsA_succ (W : Wd) (a : Int) (i : Nat) : rowsA W a (i + 1) = rowsA W a i ++ [rowA W a i] := by simp [rowsA, List.range_succ]
theorem leafGo_succ (rows : List (List UInt8)) (i : Nat) : leafGo rows (i + 1) = leafGo rows i ++ [(getLeaf (rows[i]?.getD []) i).1] := by simp [leafGo, List.range_succ]
theorem leafGo_len (rows : List (List UInt8)) (i : Nat) : (leafGo rows i).length = i := by simp [leafGo]
theorem rowA_len (W : Wd) (a : Int) (i : Nat) : (rowA W a i).length ≤ 32 := by unfold rowA; rw [List.length_take]; omega
theorem readS_in {W : Wd} {n : Nat} (fit : fitW W n) {a : Int} {i : Nat} (ha : 0 ≤ a ∧ a < 2) (hi : (i : Int) < W.slots) : readS W.pw W.sd (gLeaf W.slots a i) 32 = if W.pw.gone = true then ([], false) else (rowA W a i, true) := by
  have hg := fit.sd.1
  have hs := fit.sl
  unfold gSize at hg
  rw [if_pos hs] at hg
  have hl : gLeaf W.slots a i = W.slots * 32 + a * (W.slots * 64) + i * 32 := by
    unfold gLeaf; rw [if_pos ⟨⟨hs, ha⟩, ⟨hs, by omega, hi⟩⟩]
  have ha' : a * (W.slots * 64) = 0 ∨ a * (W.slots * 64) = W.slots * 64 := by
    rcases (show a = 0 ∨ a = 1 by omega) with rfl | rfl
    · left; omega
    · right; omega
  have hin : inS W.sd (gLeaf W.slots a i) 32 := by unfold inS; omega
  unfold readS rowA
  cases hgone : W.pw.gone with
  | true => simp
  | false => simp [hin]
theorem k106 {ro : HP} (w : Nat) (ad : Ad) (W : Wd) (n : Nat) (a : Int) (top : Pair) (fit : fitW W n) (hn : n ≤ 2 ^ 28) :
    Fn Tryz.prog ro 106 [ptr w, .int .i64 a, agg top] (wldL w ad W) fun r : Value => (.tuple ⟨[r, .int .i64 (areaRead W a top).2.1]⟩, own r (areaRead W a top).1 :: wldL w ad { W with lk := (areaRead W a top).2.2 }) := by
  refine c106 _ _ _ ?_
  unfold t106
  refine st ?_
  intro b0
  refine fn (k171 w a) fun _ => ?_
  refine nf ?_
  refine st ?_
  refine iw ?_ ?_ <;> intro ha
  · have e : areaRead W a top = ([], 1, W.lk) := by unfold areaRead; rw [if_neg ha]
    rw [e]
    exact W_retE _ rfl (ent_ownNil.trans en')
  have hsl := fit.sl
  have okS1 := fit.sd.ok hsl (by omega)
  (repeat' (first | refine st ?_ | (refine iw ?_ ?_ <;> intro h <;> try exact ko) | intro b))
  refine W_loopX W.slots.toNat (fun i _ => 0 < i → W.pw.gone = false) (fun i q => [q, .int .i64 i]) (fun i (q : Value) => [own q (rowsA W a i), blk b0 [val top.a, val top.b]] ++ wldL w ad W) (.slice none 0 0) (fun h => absurd h (by omega)) ((ent_ownNil (α := List UInt8)).trans en') rfl ?_
  rintro i q j hi hC
  refine nf ?_
  refine st ?_
  refine iw ?_ ?_ <;> intro hlt
  · refine W_ent (Pick.dup (A := fzb w [.int .i64 W.slots, ptr ad.p, ptr ad.s, ptr ad.d, ptr ad.c, ptr ad.k, ptr ad.l]) pk' (fzb_dup _ _)) ?_
    refine W_draw [fzb w [.int .i64 W.slots, ptr ad.p, ptr ad.s, ptr ad.d, ptr ad.c, ptr ad.k, ptr ad.l]] sub' fun ro' hle hb => ?_
    obtain ⟨k1, hb⟩ := Kn.of_big hb
    (repeat' (first | refine st ?_ | (refine iw ?_ ?_ <;> intro h <;> try exact ko) | intro b))
    refine fn (k176 W.slots a i) fun _ => ?_
    refine fn (k184 ad.s ad.p W.pw W.sd (gLeaf W.slots a i) 32 okS1) fun r => ?_
    rw [readS_in fit ha hlt]
    refine nf ?_
    refine st ?_
    refine st ?_
    refine fi ?_
    intro j
    refine nf ?_
    cases hg : W.pw.gone with
    | true =>
      rw [if_pos rfl]
      (repeat' (first | refine st ?_ | (refine iw ?_ ?_ <;> intro h <;> try exact ko) | intro b))
      have e : areaRead W a top = ([], 7, W.lk) := by unfold areaRead; rw [if_pos ha, if_pos hg]
      rw [e]
      exact W_retE _ rfl (ent_ownNil.trans en')
    | false =>
      rw [if_neg (by decide)]
      refine st ?_
      refine st ?_
      refine W_app1 (xs := rowsA W a i) (y := rowA W a i) pk' (ent_frz mem') rfl ⟨rfl, by decide, by decide⟩ (by rw [rowsA_len]; omega) fun q' => ?_
      (repeat' (first | refine st ?_ | (refine iw ?_ ?_ <;> intro h <;> try exact ko) | intro b))
      refine fi ?_
      refine ⟨q', by omega, fun _ => (by first | rfl | exact hg), rfl, ?_⟩
      rw [rowsA_succ]
      exact en'
  have : i = W.slots.toNat := by omega
  subst this
  have hgone := hC (by omega)
  refine fi ?_
  intro j
  refine nf ?_
  refine W_frzS (v := q) pk' ?_
  (repeat' (first | refine st ?_ | (refine iw ?_ ?_ <;> intro h <;> try exact ko) | intro b))
  have hrl := rowsA_len W a W.slots.toNat
  refine fn (k173 ad.l W.lk q (rowsA W a W.slots.toNat) n fit.lk (by omega) (by rw [hrl]; omega) (by
    intro r hr
    obtain ⟨k, _, rfl⟩ := List.mem_map.1 hr
    have := rowA_len W a k
    omega)) fun nd => ?_
  have hbl := buildT_len W.lk (rowsA W a W.slots.toNat)
  have hare : areaRead W a top = if (buildT W.lk (rowsA W a W.slots.toNat)).1[1]?.getD zPair = top then
      if okRows (rowsA W a W.slots.toNat) = true then (leafGo (rowsA W a W.slots.toNat) W.slots.toNat, 0, (buildT W.lk (rowsA W a W.slots.toNat)).2) else ([], 3, (buildT W.lk (rowsA W a W.slots.toNat)).2)
    else ([], 3, (buildT W.lk (rowsA W a W.slots.toNat)).2) := by unfold areaRead; rw [if_pos ha, if_neg (by rw [hgone]; decide)]
  rw [hrl] at hbl
  have hrw : ∀ r ∈ rowsA W a W.slots.toNat, r.length ≤ 32 := by
    intro r hr
    obtain ⟨k, _, rfl⟩ := List.mem_map.1 hr
    exact rowA_len W a k
  generalize buildT W.lk (rowsA W a W.slots.toNat) = bt at *
  have hx1 : bt.1[(1 : Int).toNat]? = some (bt.1[1]?.getD zPair) := by rw [show (1 : Int).toNat = 1 from rfl, List.getElem?_eq_getElem (by omega)]; rfl
  generalize hrows : rowsA W a W.slots.toNat = rows at *
  generalize hx2 : bt.1[1]?.getD zPair = tp at *
  refine nf ?_
  refine st ?_
  refine st ?_
  refine W_draw [own nd bt.1, blk b0 [val top.a, val top.b]] sub' fun ro' hle hb => ?_
  obtain ⟨k1, hb⟩ := Kn.of_big hb
  obtain ⟨k2, hb⟩ := Kn.of_big hb
  refine st ?_
  refine st ?_
  refine W_ixE (xs := bt.1) (x := tp) sees' rfl (by omega) hx1 ?_
  (repeat' (first | refine st ?_ | (refine iw ?_ ?_ <;> intro h <;> try exact ko) | intro b))
  refine fi ?_
  intro j
  refine nf ?_
  refine iw ?_ ?_ <;> intro htop
  · rw [if_neg htop] at hare
    rw [hare]
    exact W_retE _ rfl (ent_ownNil.trans en')
  rw [if_pos htop] at hare
  refine W_len (xs := rows) sees' ?_
  refine W_loopX rows.length (fun i _ => ∀ k (hk : k < rows.length), k < i → (getLeaf rows[k] k).2 = true) (fun i q => [q, .int .i64 i]) (fun i (q2 : Value) => [own q2 (leafGo rows i), frz q rows] ++ wldL w ad { W with lk := bt.2 }) (.slice none 0 0) (fun k _ h => absurd h (by omega)) ((ent_ownNil (α := Leaf)).trans en') rfl ?_
  rintro i q2 j hi hC
  refine nf ?_
  refine st ?_
  refine iw ?_ ?_ <;> intro hlt
  · have hlt : i < rows.length := by omega
    refine W_ixF (xs := rows) (x := rows[i]) sees' (by omega) hx' fun u => ?_
    have hrow := hrw _ (List.getElem_mem hlt)
    refine fn (k186 u rows[i] i (by omega)) fun _ => ?_
    refine nf ?_
    refine st ?_
    refine st ?_
    refine st ?_
    intro b1
    refine st ?_
    refine st ?_
    refine iw ?_ ?_ <;> intro hp
    · rw [if_neg (by rw [okRows_no hlt hp]; decide)] at hare
      rw [hare]
      exact W_retE _ rfl (ent_ownNil.trans en')
    · refine st ?_
      refine W_app1 (xs := leafGo rows i) (y := (getLeaf rows[i] i).1) pk' (ent_enc rfl) rfl ⟨rfl, by decide, by decide⟩ (by rw [leafGo_len]; omega) fun q' => ?_
      (repeat' (first | refine st ?_ | (refine iw ?_ ?_ <;> intro h <;> try exact ko) | intro b))
      refine fi ?_
      refine ⟨q', by omega, ?_, rfl, ?_⟩
      · intro k hk hki
        by_cases hk2 : k = i
        · subst hk2; exact hp
        · exact hC k hk (by omega)
      · rw [leafGo_succ, List.getElem?_eq_getElem hlt]
        exact en'
  have : i = rows.length := by omega
  subst this
  have hok : okRows rows = true := okRows_yes fun k hk => hC k hk hk
  rw [if_pos hok] at hare
  rw [hare]
  refine fi ?_
  intro j
  refine nf ?_
  rw [hrl]
  (first | exact retU | exact retB)
end Go.Lb
