/- The law CommitEnds, walked. -/
import Derived.Test.YtkblnbbpeakgmaaGreatDC
set_option linter.all false
namespace Go.Lb
open Go.Proofs
attribute [local irreducible] WT blk fzb own frz mp exL isA Ent Tri updE drawE At Kn See SeeS

def realZ : RealF := ⟨fun _ _ _ _ => (zSealed, false), fun _ _ _ _ => ([], false), fun _ => zPair⟩
theorem newW_fit {slots : Int} (h : isG slots) (seed : UInt64) {lk : Lk} (hl : fitL lk 1) : fitW (newW slots seed lk) 1 := by
  have hg := gS h
  refine ⟨h, ⟨?_, by simp [newW], by simp [newW], by simp [newW]⟩, ⟨rfl, by simp [newW, zDk], by simp [newW, zDk], ?_, by simp [newW, zDk]⟩, ⟨by simp [newW], by simp [newW]⟩, hl⟩
  · simp only [newW, List.length_replicate]
    rw [hg]
    omega
  · intro b hb
    have : b = zBlock := by
      simp only [newW, zDk] at hb
      exact (List.mem_replicate.1 hb).2
    rw [this]
    rfl
def idl : Lk := .ideal ⟨[], []⟩
theorem idl_fit : fitL idl 1 := ⟨by simp, by simp, by simp⟩
theorem idl_num : numL idl := ⟨by decide, by intro j h; simp at h⟩
def knW : Wd := newW 4 1 idl
theorem kn1 : (commitDo knW ⟨0, 0⟩ (List.replicate 4 zLeaf)).1 = 0 := by kernel_rfl
theorem kn2 : (commitDo knW ⟨0, 0⟩ (List.replicate 4 zLeaf)).2.1.pw.steps = 6 := by kernel_rfl
theorem kn3 : (commitLoad (commitDo knW ⟨0, 0⟩ (List.replicate 4 zLeaf)).2.1).2.1 = 0 := by kernel_rfl
theorem kn4 : (commitLoad (commitDo knW ⟨0, 0⟩ (List.replicate 4 zLeaf)).2.1).1.length = 4 := by kernel_rfl
theorem kn5 : (commitDo knW ⟨0, 0⟩ (List.replicate 4 zLeaf)).2.1.cn.value = 1 := by kernel_rfl
theorem k35 {ro : HP} : Fn Tryz.prog ro 35 [] [] fun _ : Unit => (.bool true, []) := by
  refine c35 ?_
  unfold t35
  have fit0 : fitW knW 1 := newW_fit (by omega) 1 idl_fit
  have fit1 := commitDo_fit fit0 ⟨0, 0⟩ (List.replicate 4 zLeaf)
  have h1 : (commitDo knW ⟨0, 0⟩ (List.replicate 4 zLeaf)).1 = 0 := kn1
  have h2 : (commitDo knW ⟨0, 0⟩ (List.replicate 4 zLeaf)).2.1.pw.steps = 6 := kn2
  have h3 : (commitLoad (commitDo knW ⟨0, 0⟩ (List.replicate 4 zLeaf)).2.1).2.1 = 0 := kn3
  have h4 : (commitLoad (commitDo knW ⟨0, 0⟩ (List.replicate 4 zLeaf)).2.1).1.length = 4 := kn4
  have h5 : (commitDo knW ⟨0, 0⟩ (List.replicate 4 zLeaf)).2.1.cn.value = 1 := kn5
  have k28' := k28 (ro := ro) 4 1 true realZ (by omega)
  rw [show newW 4 1 (newLk realZ true) = knW from rfl] at k28'
  generalize knW = W0 at *
  refine fn k28' fun q => ?_
  obtain ⟨w, ad⟩ := q
  (repeat' (first | refine st ?_ | (refine iw ?_ ?_ <;> intro h <;> try exact ko) | intro b))
  refine fn (k29 0 (by decide)) fun m => ?_
  (repeat' (first | refine st ?_ | (refine iw ?_ ?_ <;> intro h <;> try exact ko) | intro b))
  refine W_mkS (z := zLeaf) rfl (fun _ => rfl) (by omega) fun v => ?_
  refine fn (k30 (A := own v (List.replicate (4 : Int).toNat zLeaf)) w ad W0 1 m ⟨0, 0⟩ v (List.replicate 4 zLeaf) fit0 (by decide) ⟨by decide, by decide⟩ (fun _ => own_seen)) fun _ => ?_
  generalize commitDo W0 ⟨0, 0⟩ (List.replicate 4 zLeaf) = R at *
  refine fn (k32 w ad R.2.1 51 fit1 (by decide)) fun r => ?_
  generalize commitLoad R.2.1 = L at *
  rw [h1, h3]
  (repeat' (first | refine st ?_ | (refine iw ?_ ?_ <;> intro h <;> try exact ko) | intro b))
  refine fn (k65 ad.p R.2.1.pw) fun _ => ?_
  rw [h2]
  (repeat' (first | refine st ?_ | (refine iw ?_ ?_ <;> intro h <;> try exact ko) | intro b))
  refine fn (k34 ad.c ad.p R.2.1.cn) fun _ => ?_
  rw [h5]
  (repeat' (first | refine st ?_ | (refine iw ?_ ?_ <;> intro h <;> try exact ko) | intro b))
  (first | exact retU | exact retB)
/-- how it stands behind i commits -/
structure Ends (ls : List Leaf) (i : Nat) (W : Wd) (M : Mkr) : Prop where
  fit : fitW W (1 + 50 * i)
  on : pwOn W.pw
  sl : W.slots = 4
  ks : W.ks = ⟨9, [1]⟩
  num : numL W.lk
  m : M = ⟨0, ((min i 100 : Nat) : Int)⟩
  v : W.cn.value = UInt64.ofNat (min i 100)
  b : W.cn.boots = 0
  c : 0 < i → ∃ no s ep top key, Cmt W ls no s ep top key
theorem key9 : (keyP ⟨9, [1]⟩ (lastE [1])).2 = true := by kernel_rfl
theorem Ends.start (ls : List Leaf) : Ends ls 0 (newW 4 9 idl) ⟨0, 0⟩ :=
  ⟨newW_fit (by omega) 9 idl_fit, ⟨rfl, rfl⟩, rfl, rfl, idl_num, rfl, rfl, rfl, fun h => absurd h (by omega)⟩
theorem min_toNat (i : Nat) : (UInt64.ofNat (min i 100)).toNat = min i 100 := by rw [UInt64.toNat_ofNat']; omega
theorem Ends.next {ls : List Leaf} {i : Nat} {W : Wd} {M : Mkr} (h : Ends ls i W M) (hl : ls.length = 4) (hok : okLs ls = true) (hi : i < 120) :
    (commitDo W M ls).1 = (if i < 100 then 0 else 6) ∧ Ends ls (i + 1) (commitDo W M ls).2.1 (commitDo W M ls).2.2 := by
  obtain ⟨hf, hp, hs, hk, hn, hm, hv, hb, hc⟩ := h
  have hvn : W.cn.value.toNat = min i 100 := by rw [hv, min_toNat]
  have f1 := (commitDo_fit hf M ls).mono (show 1 + 50 * i + 50 ≤ 1 + 50 * (i + 1) by omega)
  by_cases h100 : i < 100
  · obtain ⟨W', no, s, top, key, he, hcm, haf, hcn, _⟩ := commit_on (M := M) hf (by omega) hp (by rw [hs, hl]; rfl) hok hn (by rw [hk]; exact key9) (by rw [hm, hb]) (by rw [hb]; decide) (by rw [hm]; simp; omega) (by omega)
    rw [he] at f1 ⊢
    refine ⟨by rw [if_pos h100], f1, haf.on, by rw [haf.slots, hs], by rw [haf.ks, hk], haf.num, ?_, ?_, by rw [haf.boots, hb], fun _ => ⟨no, s, _, top, key, hcm⟩⟩
    · rw [hm]
      simp only
      rw [show min (i + 1) 100 = min i 100 + 1 from by omega]
      rfl
    · rw [hcn]
      simp only
      rw [hv]
      apply UInt64.toNat_inj.1
      rw [UInt64.toNat_add, min_toNat, min_toNat]
      have : (1 : UInt64).toNat = 1 := rfl
      omega
  · obtain ⟨W', he, haf, hcn, hkeep⟩ := commit_end (M := M) hf hp (by rw [hs, hl]; rfl) hok hn (by rw [hm]; simp; omega) (by omega)
    rw [he] at f1 ⊢
    refine ⟨by rw [if_neg h100], f1, haf.on, by rw [haf.slots, hs], by rw [haf.ks, hk], haf.num, ?_, ?_, by rw [haf.boots, hb], fun _ => ?_⟩
    · rw [hm, show min (i + 1) 100 = min i 100 from by omega]
    · rw [hcn, hv]
      congr 1
      omega
    · obtain ⟨no, s, ep, top, key, hcm⟩ := hc (by omega)
      exact ⟨no, s, ep, top, key, hkeep _ _ _ _ _ _ hcm⟩
theorem someL_len (n : Nat) (kinds : List Int) (tags : List UInt64) : (someL n kinds tags).length = n := by simp [someL]
theorem someLeaf_ok (kinds : List Int) (tags : List UInt64) {i : Nat} (hi : i < 16) : isLeaf (someLeaf kinds tags i) i = true := by
  unfold someLeaf
  split
  · unfold isLeaf
    rw [if_neg (by omega)]
    simp
    omega
  · split
    · unfold isLeaf
      rw [if_neg (by omega)]
      simp
      omega
    · unfold isLeaf
      rw [if_neg (by omega)]
      simp [zLeaf]
theorem someL_ok (kinds : List Int) (tags : List UInt64) : okLs (someL 4 kinds tags) = true := okLs_yes fun k hk => by
  rw [someL_len] at hk
  have : ∀ h, (someL 4 kinds tags)[k]'h = someLeaf kinds tags k := by intro h; simp [someL]
  rw [this]
  exact someLeaf_ok kinds tags (by omega)
theorem k3 {ro : HP} {A B : Asrt} (v u : Value) (kinds : List Int) (tags : List UInt64) (times : Int) (hA : ∀ g, A g → seen v kinds g) (hB : ∀ g, B g → seen u tags g) : Fn Tryz.prog ro 3 [v, u, .int .i64 times] [A, B] fun _ : Unit => (.bool true, [A, B]) := by
  refine c3 _ _ _ ?_
  unfold t3
  refine st ?_
  refine iw ?_ ?_ <;> intro h0
  · (first | exact retU | exact retB)
  refine st ?_
  refine iw ?_ ?_ <;> intro h1
  · (first | exact retU | exact retB)
  obtain ⟨t, rfl⟩ : ∃ t : Nat, times = t := ⟨times.toNat, by omega⟩
  have k28' := k28 (ro := ro) 4 9 true realZ (by omega)
  rw [show newLk realZ true = idl from rfl] at k28'
  have hstart := Ends.start (someL 4 kinds tags)
  have hval : (newW 4 9 idl).cn.value = 0 := rfl
  generalize newW 4 9 idl = W0 at *
  refine fn k28' fun q => ?_
  obtain ⟨w, ad⟩ := q
  (repeat' (first | refine st ?_ | (refine iw ?_ ?_ <;> intro h <;> try exact ko) | intro b))
  refine fn (k29 0 (by decide)) fun m => ?_
  (repeat' (first | refine st ?_ | (refine iw ?_ ?_ <;> intro h <;> try exact ko) | intro b))
  have hls := someL_len 4 kinds tags
  have hlo := someL_ok kinds tags
  refine W_loopX t (fun i (q : Wd × Mkr) => Ends (someL 4 kinds tags) i q.1 q.2 ∧ (i = 0 → q.1 = W0)) (fun i _ => [.int .i64 i]) (fun i (q : Wd × Mkr) => [A, B, mkA m q.2] ++ wldL w ad q.1) (W0, ⟨0, 0⟩) ⟨hstart, fun _ => rfl⟩ en' rfl ?_
  rintro i ⟨W, M⟩ j hi ⟨hE, hE0⟩
  simp only at hE hE0
  refine nf ?_
  refine st ?_
  refine iw ?_ ?_ <;> intro hlt
  · have hlt : i < t := by omega
    obtain ⟨e1, e2⟩ := hE.next hls hlo (by omega)
    refine fn (k31 4 v u kinds tags (by decide) hA hB) fun x => ?_
    refine fn (k30 (A := own x (someL 4 kinds tags)) w ad W (1 + 50 * i) m M x (someL 4 kinds tags) hE.fit (by omega) (by rw [hE.m]; exact ⟨by simp, by simp; omega⟩) (fun _ => own_seen)) fun _ => ?_
    generalize commitDo W M (someL 4 kinds tags) = R at *
    rw [e1]
    by_cases h100 : i < 100
    · rw [if_pos h100]
      have hd : ((0 : Int) == 0) = decide ((i : Int) < 100) := by rw [decide_eq_true (show (i : Int) < 100 by omega)]; rfl
      (repeat' (first | refine st ?_ | (refine iw ?_ ?_ <;> intro h <;> try exact ko) | intro b))
      refine fi ?_
      exact ⟨(R.2.1, R.2.2), by omega, ⟨e2, fun h => absurd h (by omega)⟩, rfl, en'⟩
    · rw [if_neg h100]
      have hd : ((6 : Int) == 0) = decide ((i : Int) < 100) := by rw [decide_eq_false (show ¬ (i : Int) < 100 by omega)]; rfl
      (repeat' (first | refine st ?_ | (refine iw ?_ ?_ <;> intro h <;> try exact ko) | intro b))
      refine fi ?_
      exact ⟨(R.2.1, R.2.2), by omega, ⟨e2, fun h => absurd h (by omega)⟩, rfl, en'⟩
  have : i = t := by omega
  subst this
  refine fi ?_
  intro j
  refine nf ?_
  refine fn (k32 w ad W (1 + 50 * i) hE.fit (by omega)) fun r => ?_
  (repeat' (first | refine st ?_ | (refine iw ?_ ?_ <;> intro h <;> try exact ko) | intro b))
  refine fn (k31 4 v u kinds tags (by decide) hA hB) fun x => ?_
  have hmin : (W.cn.value.toNat : Int) = (UInt64.ofInt (if (100 : Int) < i then 100 else (i : Int))).toNat := by
    rw [hE.v, min_toNat]
    simp only [UInt64.ofInt, UInt64.toNat_ofNat']
    split <;> omega
  have hlk : commitLoad W = ((if i = 0 then List.replicate 4 zLeaf else someL 4 kinds tags), 0, W.lk) := by
    by_cases h00 : i = 0
    · have hv0 : W.cn.value = 0 := by rw [hE0 h00]; exact hval
      unfold commitLoad
      rw [if_neg (by rw [hE.on.1]; decide), if_pos hv0, if_pos h00, hE.sl]
      rfl
    · obtain ⟨no, s, ep, top, key, hcm⟩ := hE.c (by omega)
      rw [if_neg h00]
      exact hcm.load hE.fit hE.on.1
  rw [hlk]
  refine st ?_
  refine iw ?_ ?_ <;> intro h8
  · have h00 : i = 0 := by omega
    rw [if_pos h00]
    refine W_mkS (z := zLeaf) rfl (fun _ => rfl) (by omega) fun y => ?_
    refine st ?_
    refine iw (fun _ => ?_) fun h7 => absurd trivial h7
    refine fn (k33 (A := own r (List.replicate 4 zLeaf)) (B := own y (List.replicate (4 : Int).toNat zLeaf)) r y (List.replicate 4 zLeaf) (List.replicate 4 zLeaf) (fun _ => own_seen) (fun _ => own_seen) (by decide)) fun _ => ?_
    rw [show sameL (List.replicate 4 zLeaf) (List.replicate 4 zLeaf) = true from by simp [sameL]]
    refine W_iteT ?_
    refine st ?_
    refine st ?_
    refine st ?_
    refine fn (k34 ad.c ad.p W.cn) fun _ => ?_
    refine st ?_
    refine st ?_
    refine st ?_
    refine iw ?_ ?_ <;> intro h9
    · refine fn k35 fun _ => ?_
      (first | exact retU | exact retB)
    · exact absurd hmin h9
  · have h00 : ¬ i = 0 := by omega
    rw [if_neg h00]
    refine st ?_
    refine iw (fun _ => ?_) fun h7 => absurd trivial h7
    refine fn (k33 (A := own r (someL 4 kinds tags)) (B := own x (someL 4 kinds tags)) r x (someL 4 kinds tags) (someL 4 kinds tags) (fun _ => own_seen) (fun _ => own_seen) (by rw [hls]; decide)) fun _ => ?_
    rw [show sameL (someL 4 kinds tags) (someL 4 kinds tags) = true from by simp [sameL]]
    refine W_iteT ?_
    refine st ?_
    refine st ?_
    refine st ?_
    refine fn (k34 ad.c ad.p W.cn) fun _ => ?_
    refine st ?_
    refine st ?_
    refine st ?_
    refine iw ?_ ?_ <;> intro h9
    · refine fn k35 fun _ => ?_
      (first | exact retU | exact retB)
    · exact absurd hmin h9
end Go.Lb
