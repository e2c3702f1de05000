/- Contracts: commit.Load, and what the laws of chapter 23 use. No statement of the seat is proved in this file. -/
import Derived.Test.YtkblnbbpeakgmaaGreatCW
set_option linter.all false
namespace Go.Lb
open Go.Proofs
attribute [local irreducible] WT blk fzb own frz mp exL isA Ent Tri updE drawE At Kn See SeeS

def commitLoad (W : Wd) : List Leaf × Int × Lk :=
  if W.pw.gone = true then ([], 7, W.lk) else
  if W.cn.value = 0 then (List.replicate W.slots.toNat zLeaf, 0, W.lk) else
  if (logGet W W.cn.value).2 = 0 then areaRead W ((W.cn.value.toNat : Int) % 2) (logGet W W.cn.value).1.hash else ([], (logGet W W.cn.value).2, W.lk)
theorem k32 {ro : HP} (w : Nat) (ad : Ad) (W : Wd) (n : Nat) (fit : fitW W n) (hn : n ≤ 2 ^ 27) :
    Fn Tryz.prog ro 32 [ptr w] (wldL w ad W) fun r : Value => (.tuple ⟨[r, .int .i64 (commitLoad W).2.1]⟩, own r (commitLoad W).1 :: wldL w ad { W with lk := (commitLoad W).2.2 }) := by
  refine c32 _ ?_
  unfold t32
  have hs := fit.sl
  (repeat' (first | refine st ?_ | (refine iw ?_ ?_ <;> intro h <;> try exact ko) | intro b))
  refine fn (k104 ad.p W.pw) fun _ => ?_
  refine st ?_
  refine iw ?_ ?_ <;> intro h1
  · have e : commitLoad W = ([], 7, W.lk) := by unfold commitLoad; rw [if_pos (by simpa using h1)]
    rw [e]
    exact W_retE _ rfl (ent_ownNil.trans en')
  have h1' : W.pw.gone = false := by simpa using h1
  refine st ?_
  refine st ?_
  refine st ?_
  refine fn (k34 ad.c ad.p W.cn) fun _ => ?_
  refine st ?_
  refine iw ?_ ?_ <;> intro h2
  · have h2' : W.cn.value = 0 := by apply UInt64.toNat_inj.1; simp at h2; simpa using h2
    have e : commitLoad W = (List.replicate W.slots.toNat zLeaf, 0, W.lk) := by unfold commitLoad; rw [if_neg (by simp [h1']), if_pos h2']
    rw [e]
    (repeat' (first | refine st ?_ | (refine iw ?_ ?_ <;> intro h <;> try exact ko) | intro b))
    refine W_mkS (z := zLeaf) rfl (fun _ => rfl) (by omega) fun r => ?_
    (first | exact retU | exact retB)
  have h2' : ¬ W.cn.value = 0 := by intro h; apply h2; rw [h]; rfl
  refine fn (k105 w ad W n W.cn.value fit (by omega)) fun _ => ?_
  have hW : commitLoad W = if (logGet W W.cn.value).2 = 0 then areaRead W ((W.cn.value.toNat : Int) % 2) (logGet W W.cn.value).1.hash else ([], (logGet W W.cn.value).2, W.lk) := by
    unfold commitLoad; rw [if_neg (by simp [h1']), if_neg h2']
  generalize logGet W W.cn.value = g at *
  refine nf ?_
  refine st ?_
  refine st ?_
  refine st ?_
  intro b
  refine st ?_
  refine st ?_
  refine iw ?_ ?_ <;> intro h3
  · rw [hW, if_neg h3]
    exact W_retE _ rfl (ent_ownNil.trans en')
  rw [if_pos h3] at hW
  refine st ?_
  refine st ?_
  rw [i64_wrap (n := (W.cn.value.toNat : Int) % 2) (by omega)]
  refine st ?_
  refine st ?_
  refine fn (k106 w ad W n ((W.cn.value.toNat : Int) % 2) g.1.hash fit (by omega)) fun r => ?_
  (repeat' (first | refine st ?_ | (refine iw ?_ ?_ <;> intro h <;> try exact ko) | intro b))
  rw [hW]
  (first | exact retU | exact retB)

/-! ### what the laws use -/
def sameL (a b : List Leaf) : Bool := decide (a = b)
theorem leaf_eta (l : Leaf) : (⟨l.kind, l.dirty, l.lba, ⟨l.n.ep, l.n.sl, l.n.ver⟩, ⟨l.tag.a, l.tag.b⟩⟩ : Leaf) = l := rfl
theorem k33 {ro : HP} {A B : Asrt} (v u : Value) (a b : List Leaf) (hA : ∀ g, A g → seen v a g) (hB : ∀ g, B g → seen u b g) (hl : a.length ≤ 2 ^ 40) : Fn Tryz.prog ro 33 [v, u] [A, B] fun _ : Unit => (.bool (sameL a b), [A, B]) := by
  refine c33 _ _ ?_
  unfold t33
  have seeA : ∀ {S}, Mem A S → SeeS false ro S v a := fun m => SeeS.of (At.mem m) hA
  have seeB : ∀ {S}, Mem B S → SeeS false ro S u b := fun m => SeeS.of (At.mem m) hB
  refine W_len (seeA mem') ?_
  refine W_len (seeB mem') ?_
  refine st ?_
  refine iw ?_ ?_ <;> intro hlen
  · have e : sameL a b = false := by unfold sameL; rw [decide_eq_false_iff_not]; rintro rfl; exact hlen rfl
    rw [e]
    (first | exact retU | exact retB)
  have hlen : a.length = b.length := by omega
  refine W_loopX a.length (fun i _ => a.take i = b.take i) (fun i _ => [.int .i64 i]) (fun i (_ : Unit) => [A, B]) () rfl en' rfl ?_
  rintro i _ j hi hC
  refine nf ?_
  refine W_len (seeA mem') ?_
  refine st ?_
  refine iw ?_ ?_ <;> intro hlt
  · have hlt : i < a.length := by omega
    have hlt2 : i < b.length := by omega
    refine W_draw [A, B] sub' fun ro' hle hb => ?_
    obtain ⟨k1, hb⟩ := Kn.of_big hb
    obtain ⟨k2, hb⟩ := Kn.of_big hb
    refine W_ixE (xs := a) (x := a[i]) (SeeS.of (At.kn k1) hA) rfl (by omega) hx' ?_
    refine W_ixE (xs := b) (x := b[i]) (SeeS.of (At.kn k2) hB) rfl (by omega) hx' ?_
    refine nf ?_
    refine W_neL ?_
    rw [leaf_eta, leaf_eta]
    refine fi ?_
    intro j
    refine nf ?_
    refine iw ?_ ?_ <;> intro h
    · have e : sameL a b = false := by
        unfold sameL; rw [decide_eq_false_iff_not]
        intro h'
        apply h
        simp only [h']
      rw [e]
      (first | exact retU | exact retB)
    · (repeat' (first | refine st ?_ | (refine iw ?_ ?_ <;> intro h <;> try exact ko) | intro b))
      refine fi ?_
      refine ⟨(), by omega, ?_, rfl, en'⟩
      rw [take_succ' hlt, take_succ' hlt2, hC, h]
  · have : i = a.length := by omega
    subst this
    have e : sameL a b = true := by
      unfold sameL; rw [decide_eq_true_eq]
      rw [List.take_length, List.take_of_length_le (by omega)] at hC
      exact hC
    rw [e]
    refine fi ?_
    intro j
    refine nf ?_
    (first | exact retU | exact retB)
def someK (kinds : List Int) (i : Nat) : Int := kinds[((i : Int) % kinds.length).toNat]?.getD 0
def someT (tags : List UInt64) (i : Nat) : UInt64 := tags[((i : Int) % tags.length).toNat]?.getD 0
def someLeaf (kinds : List Int) (tags : List UInt64) (i : Nat) : Leaf :=
  if and3 (someK kinds i) = 1 then ⟨2, true, i, zNonce, zPair⟩ else
  if and3 (someK kinds i) = 2 ∨ and3 (someK kinds i) = 3 then ⟨1, and3 (someK kinds i) == 2, i + 16, ⟨1, UInt32.ofInt i, someT tags i⟩, ⟨someT tags i, UInt64.ofInt i⟩⟩ else zLeaf
def someL (n : Nat) (kinds : List Int) (tags : List UInt64) : List Leaf := (List.range n).map (someLeaf kinds tags)
theorem fillTo_skip {α : Type} {n i : Nat} {f : Nat → α} {z : α} (h : f i = z) : fillTo n f z (i + 1) = fillTo n f z i := by
  unfold fillTo
  refine List.map_congr_left fun j _ => ?_
  by_cases hj : j = i
  · subst hj; simp [h]
  · by_cases h2 : j < i
    · rw [if_pos (by omega), if_pos h2]
    · rw [if_neg (by omega), if_neg h2]
theorem k31 {ro : HP} {A B : Asrt} (n : Nat) (v u : Value) (kinds : List Int) (tags : List UInt64) (hn : n ≤ 100) (hA : ∀ g, A g → seen v kinds g) (hB : ∀ g, B g → seen u tags g) :
    Fn Tryz.prog ro 31 [.int .i64 n, v, u] [A, B] fun r : Value => (r, [own r (someL n kinds tags), A, B]) := by
  refine c31 _ _ _ ?_
  unfold t31
  have seeA : ∀ {S}, Mem A S → SeeS false ro S v kinds := fun m => SeeS.of (At.mem m) hA
  have seeB : ∀ {S}, Mem B S → SeeS false ro S u tags := fun m => SeeS.of (At.mem m) hB
  refine W_mkS (z := zLeaf) rfl (fun _ => rfl) (by omega) fun r => ?_
  refine W_loopX n (fun _ _ => True) (fun i _ => [.int .i64 i]) (fun i (_ : Unit) => [own r (fillTo n (someLeaf kinds tags) zLeaf i), A, B]) () trivial (by rw [fillTo_zero]; exact en') rfl ?_
  rintro i _ j hi -
  refine nf ?_
  refine st ?_
  refine iw ?_ ?_ <;> intro hlt
  · have hlt : i < n := by omega
    refine W_join ?_
    have z0 := and3_0
    refine W_len (seeA mem') ?_
    refine st ?_
    refine iw ?_ ?_ <;> intro hk
    · refine W_len (seeA mem') ?_
      refine W_rem (by omega) ?_
      have hm1 : ((i : Int) % kinds.length).toNat < kinds.length := by
        have := Int.emod_lt_of_pos (i : Int) hk
        omega
      refine W_ixV (xs := kinds) (x := someK kinds i) (seeA mem') (Int.emod_nonneg _ (by omega)) (by unfold someK; rw [List.getElem?_eq_getElem hm1]; rfl) ?_
      refine W_len (seeB mem') ?_
      refine st ?_
      refine iw ?_ ?_ <;> intro ht
      · refine W_len (seeB mem') ?_
        refine W_rem (by omega) ?_
        have hm2 : ((i : Int) % tags.length).toNat < tags.length := by
          have := Int.emod_lt_of_pos (i : Int) ht
          omega
        refine W_ixV (xs := tags) (x := someT tags i) (seeB mem') (Int.emod_nonneg _ (by omega)) (by unfold someT; rw [List.getElem?_eq_getElem hm2]; rfl) ?_
        refine W_and3 ?_
        refine W_join ?_
        (repeat' (first | refine st ?_ | (refine iw ?_ ?_ <;> intro h <;> try exact ko) | intro b))
        · have e : someLeaf kinds tags i = ⟨2, true, i, zNonce, zPair⟩ := by unfold someLeaf; rw [if_pos h]
          refine W_ixst (xs := fillTo n (someLeaf kinds tags) zLeaf i) (y := someLeaf kinds tags i) pk' (ent_enc (by rw [e]; rfl)) rfl (by omega) (by rw [fillTo_len]; omega) ?_
          rw [Int.toNat_natCast, fillTo_set]
          refine fi ?_
          intro j
          refine nf ?_
          refine fi ?_
          intro j
          refine nf ?_
          (repeat' (first | refine st ?_ | (refine iw ?_ ?_ <;> intro h <;> try exact ko) | intro b))
          refine fi ?_
          exact ⟨(), by omega, trivial, rfl, en'⟩
        · have h' : and3 (someK kinds i) = 2 := h
          have e : someLeaf kinds tags i = ⟨1, and3 (someK kinds i) == 2, i + 16, ⟨1, UInt32.ofInt i, someT tags i⟩, ⟨someT tags i, UInt64.ofInt i⟩⟩ := by unfold someLeaf; rw [if_neg (by omega), if_pos (by omega)]
          refine W_ixst (xs := fillTo n (someLeaf kinds tags) zLeaf i) (y := someLeaf kinds tags i) pk' (ent_enc (by rw [e]; rfl)) rfl (by omega) (by rw [fillTo_len]; omega) ?_
          rw [Int.toNat_natCast, fillTo_set]
          refine fi ?_
          intro j
          refine nf ?_
          refine fi ?_
          intro j
          refine nf ?_
          (repeat' (first | refine st ?_ | (refine iw ?_ ?_ <;> intro h <;> try exact ko) | intro b))
          refine fi ?_
          exact ⟨(), by omega, trivial, rfl, en'⟩
        · have h' : and3 (someK kinds i) = 3 := h
          have e : someLeaf kinds tags i = ⟨1, and3 (someK kinds i) == 2, i + 16, ⟨1, UInt32.ofInt i, someT tags i⟩, ⟨someT tags i, UInt64.ofInt i⟩⟩ := by unfold someLeaf; rw [if_neg (by omega), if_pos (by omega)]
          refine W_ixst (xs := fillTo n (someLeaf kinds tags) zLeaf i) (y := someLeaf kinds tags i) pk' (ent_enc (by rw [e]; rfl)) rfl (by omega) (by rw [fillTo_len]; omega) ?_
          rw [Int.toNat_natCast, fillTo_set]
          refine fi ?_
          intro j
          refine nf ?_
          refine fi ?_
          intro j
          refine nf ?_
          (repeat' (first | refine st ?_ | (refine iw ?_ ?_ <;> intro h <;> try exact ko) | intro b))
          refine fi ?_
          exact ⟨(), by omega, trivial, rfl, en'⟩
        · have e : someLeaf kinds tags i = zLeaf := by unfold someLeaf; rw [if_neg (by omega), if_neg (by omega)]
          refine fi ?_
          intro j
          refine nf ?_
          refine fi ?_
          intro j
          refine nf ?_
          (repeat' (first | refine st ?_ | (refine iw ?_ ?_ <;> intro h <;> try exact ko) | intro b))
          refine fi ?_
          refine ⟨(), by omega, trivial, rfl, ?_⟩
          rw [fillTo_skip e]
          exact en'
      · have hT : someT tags i = 0 := by unfold someT; rw [List.getElem?_eq_none (by omega)]; rfl
        refine W_and3 ?_
        refine W_join ?_
        (repeat' (first | refine st ?_ | (refine iw ?_ ?_ <;> intro h <;> try exact ko) | intro b))
        · have e : someLeaf kinds tags i = ⟨2, true, i, zNonce, zPair⟩ := by unfold someLeaf; rw [if_pos h]
          refine W_ixst (xs := fillTo n (someLeaf kinds tags) zLeaf i) (y := someLeaf kinds tags i) pk' (ent_enc (by rw [e]; rfl)) rfl (by omega) (by rw [fillTo_len]; omega) ?_
          rw [Int.toNat_natCast, fillTo_set]
          refine fi ?_
          intro j
          refine nf ?_
          refine fi ?_
          intro j
          refine nf ?_
          (repeat' (first | refine st ?_ | (refine iw ?_ ?_ <;> intro h <;> try exact ko) | intro b))
          refine fi ?_
          exact ⟨(), by omega, trivial, rfl, en'⟩
        · have h' : and3 (someK kinds i) = 2 := h
          have e : someLeaf kinds tags i = ⟨1, and3 (someK kinds i) == 2, i + 16, ⟨1, UInt32.ofInt i, 0⟩, ⟨0, UInt64.ofInt i⟩⟩ := by unfold someLeaf; rw [if_neg (by omega), if_pos (by omega), hT]
          refine W_ixst (xs := fillTo n (someLeaf kinds tags) zLeaf i) (y := someLeaf kinds tags i) pk' (ent_enc (by rw [e]; rfl)) rfl (by omega) (by rw [fillTo_len]; omega) ?_
          rw [Int.toNat_natCast, fillTo_set]
          refine fi ?_
          intro j
          refine nf ?_
          refine fi ?_
          intro j
          refine nf ?_
          (repeat' (first | refine st ?_ | (refine iw ?_ ?_ <;> intro h <;> try exact ko) | intro b))
          refine fi ?_
          exact ⟨(), by omega, trivial, rfl, en'⟩
        · have h' : and3 (someK kinds i) = 3 := h
          have e : someLeaf kinds tags i = ⟨1, and3 (someK kinds i) == 2, i + 16, ⟨1, UInt32.ofInt i, 0⟩, ⟨0, UInt64.ofInt i⟩⟩ := by unfold someLeaf; rw [if_neg (by omega), if_pos (by omega), hT]
          refine W_ixst (xs := fillTo n (someLeaf kinds tags) zLeaf i) (y := someLeaf kinds tags i) pk' (ent_enc (by rw [e]; rfl)) rfl (by omega) (by rw [fillTo_len]; omega) ?_
          rw [Int.toNat_natCast, fillTo_set]
          refine fi ?_
          intro j
          refine nf ?_
          refine fi ?_
          intro j
          refine nf ?_
          (repeat' (first | refine st ?_ | (refine iw ?_ ?_ <;> intro h <;> try exact ko) | intro b))
          refine fi ?_
          exact ⟨(), by omega, trivial, rfl, en'⟩
        · have e : someLeaf kinds tags i = zLeaf := by unfold someLeaf; rw [if_neg (by omega), if_neg (by omega)]
          refine fi ?_
          intro j
          refine nf ?_
          refine fi ?_
          intro j
          refine nf ?_
          (repeat' (first | refine st ?_ | (refine iw ?_ ?_ <;> intro h <;> try exact ko) | intro b))
          refine fi ?_
          refine ⟨(), by omega, trivial, rfl, ?_⟩
          rw [fillTo_skip e]
          exact en'
    · have hK : someK kinds i = 0 := by unfold someK; rw [List.getElem?_eq_none (by omega)]; rfl
      refine W_len (seeB mem') ?_
      refine st ?_
      refine iw ?_ ?_ <;> intro ht
      · refine W_len (seeB mem') ?_
        refine W_rem (by omega) ?_
        have hm2 : ((i : Int) % tags.length).toNat < tags.length := by
          have := Int.emod_lt_of_pos (i : Int) ht
          omega
        refine W_ixV (xs := tags) (x := someT tags i) (seeB mem') (Int.emod_nonneg _ (by omega)) (by unfold someT; rw [List.getElem?_eq_getElem hm2]; rfl) ?_
        refine W_and3 ?_
        refine W_join ?_
        rw [z0]
        (repeat' (first | refine st ?_ | (refine iw ?_ ?_ <;> intro h <;> try exact ko) | intro b))
        have e : someLeaf kinds tags i = zLeaf := by unfold someLeaf; rw [hK, z0, if_neg (by decide), if_neg (by decide)]
        refine fi ?_
        intro j
        refine nf ?_
        refine fi ?_
        intro j
        refine nf ?_
        (repeat' (first | refine st ?_ | (refine iw ?_ ?_ <;> intro h <;> try exact ko) | intro b))
        refine fi ?_
        refine ⟨(), by omega, trivial, rfl, ?_⟩
        rw [fillTo_skip e]
        exact en'
      · refine W_and3 ?_
        refine W_join ?_
        rw [z0]
        (repeat' (first | refine st ?_ | (refine iw ?_ ?_ <;> intro h <;> try exact ko) | intro b))
        have e : someLeaf kinds tags i = zLeaf := by unfold someLeaf; rw [hK, z0, if_neg (by decide), if_neg (by decide)]
        refine fi ?_
        intro j
        refine nf ?_
        refine fi ?_
        intro j
        refine nf ?_
        (repeat' (first | refine st ?_ | (refine iw ?_ ?_ <;> intro h <;> try exact ko) | intro b))
        refine fi ?_
        refine ⟨(), by omega, trivial, rfl, ?_⟩
        rw [fillTo_skip e]
        exact en'
  · have : i = n := by omega
    subst this
    rw [fillTo_all]
    refine fi ?_
    intro j
    refine nf ?_
    (first | exact retU | exact retB)
end Go.Lb
