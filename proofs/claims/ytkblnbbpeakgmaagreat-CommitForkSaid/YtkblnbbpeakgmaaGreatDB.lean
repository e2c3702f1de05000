/- Plain facts: a lock that knows more, trees again, what is committed. No statement of the seat is proved in this file. -/
import Derived.Test.YtkblnbbpeakgmaaGreatDA
set_option linter.all false
namespace Go.Lb

/-! ### a lock that knows more -/
def lkLe : Lk → Lk → Prop
  | .real r, .real r' => r = r'
  | .ideal x, .ideal y => x.issued <+: y.issued ∧ x.sums <+: y.sums
  | _, _ => False
theorem lkLe_refl (lk : Lk) : lkLe lk lk := by
  cases lk with
  | real r => rfl
  | ideal x => exact ⟨List.prefix_refl _, List.prefix_refl _⟩
theorem lkLe_trans {a b c : Lk} (h : lkLe a b) (h' : lkLe b c) : lkLe a c := by
  cases a <;> cases b <;> cases c <;> simp_all [lkLe]
  exact ⟨h.1.trans h'.1, h.2.trans h'.2⟩
theorem sum_le (lk : Lk) (k : List UInt8) : lkLe lk (sumL lk k).2 := by
  cases lk with
  | real r => rfl
  | ideal x =>
    unfold sumL sumO
    simp only
    split
    · exact ⟨List.prefix_refl _, List.prefix_refl _⟩
    · exact ⟨List.prefix_refl _, List.prefix_append _ _⟩
theorem sea_le (lk : Lk) (key : Pair) (no : Nonce) (head data : List UInt8) : lkLe lk (sealL lk key no head data).2 := by
  cases lk with
  | real r => rfl
  | ideal x =>
    unfold sealL sealO
    simp only
    split
    · exact ⟨List.prefix_append _ _, List.prefix_refl _⟩
    · exact ⟨List.prefix_refl _, List.prefix_refl _⟩
theorem idxOf_pre {a b : List (List UInt8)} (h : a <+: b) {k : List UInt8} (hk : k ∈ a) : b.idxOf k = a.idxOf k := by
  obtain ⟨c, rfl⟩ := h
  rw [List.idxOf_append, if_pos hk]
theorem sum_again {lk T : Lk} {k : List UInt8} (h : lkLe (sumL lk k).2 T) : sumL T k = ((sumL lk k).1, T) := by
  cases lk with
  | real r =>
    cases T with
    | real r' =>
      have : r = r' := h
      subst this
      rfl
    | ideal y => exact h.elim
  | ideal x =>
    cases T with
    | real r' => exact h.elim
    | ideal y =>
      have h2 : (sumO x k).2.sums <+: y.sums := h.2
      have hm : k ∈ (sumO x k).2.sums := by
        unfold sumO
        simp only
        split
        · assumption
        · simp
      have hi : (sumO x k).2.sums.idxOf k = x.sums.idxOf k := by
        unfold sumO
        simp only
        split
        · rfl
        · rename_i hn
          simp [List.idxOf_append, hn, List.idxOf_eq_length hn]
      have hy : k ∈ y.sums := h2.subset hm
      show (((sumO y k).1, Lk.ideal (sumO y k).2) : Pair × Lk) = ((sumO x k).1, Lk.ideal y)
      unfold sumO
      rw [if_pos hy, idxOf_pre h2 hm, hi]
theorem leaves_le (lk : Lk) (rows : List (List UInt8)) (i : Nat) : lkLe lk (leavesT lk rows i).2 := by
  induction i with
  | zero => exact lkLe_refl _
  | succ i ih => exact lkLe_trans ih (sum_le _ _)
theorem nodes_le (m : Nat) (s : List Pair × Lk) (i : Nat) : lkLe s.2 (nodesT m s i).2 := by
  induction i with
  | zero => exact lkLe_refl _
  | succ i ih => exact lkLe_trans ih (sum_le _ _)
theorem build_le (lk : Lk) (rows : List (List UInt8)) : lkLe lk (buildT lk rows).2 := by
  rw [buildT]
  exact lkLe_trans (leaves_le lk rows _) (nodes_le _ _ _)
theorem leaves_again {lk T : Lk} {rows : List (List UInt8)} : ∀ {i : Nat}, lkLe (leavesT lk rows i).2 T → leavesT T rows i = ((leavesT lk rows i).1, T)
  | 0, h => rfl
  | i + 1, h => by
    have h1 : lkLe (leavesT lk rows i).2 T := lkLe_trans (sum_le _ _) h
    have h2 := sum_again (lk := (leavesT lk rows i).2) (k := [0] ++ rows[i]?.getD []) h
    have ih := leaves_again h1
    simp only [leavesT, leafSum, ih, h2]
theorem nodes_again {m : Nat} {s : List Pair × Lk} {T : Lk} : ∀ {i : Nat}, lkLe (nodesT m s i).2 T → nodesT m (s.1, T) i = ((nodesT m s i).1, T)
  | 0, h => rfl
  | i + 1, h => by
    have h1 : lkLe (nodesT m s i).2 T := lkLe_trans (sum_le _ _) h
    have ih := nodes_again h1
    simp only [nodesT, nodeSum] at h ⊢
    have h2 := sum_again h
    simp only [ih, h2]
/-- a tree that was built is built again, and nothing new is known -/
theorem build_again {lk T : Lk} {rows : List (List UInt8)} (h : lkLe (buildT lk rows).2 T) : buildT T rows = ((buildT lk rows).1, T) := by
  rw [buildT] at h ⊢
  have h1 : lkLe (leavesT lk rows rows.length).2 T := lkLe_trans (nodes_le _ _ _) h
  rw [leaves_again h1, nodes_again h, buildT]
theorem open_again {lk T : Lk} {key : Pair} {no : Nonce} {head : List UInt8} {s : Sealed} {d : List UInt8} (h : lkLe lk T) (ho : openL lk key no head s = (d, true)) : openL T key no head s = (d, true) := by
  cases lk with
  | real r =>
    cases T with
    | real r' =>
      have : r = r' := h
      subst this
      exact ho
    | ideal y => exact h.elim
  | ideal x =>
    cases T with
    | real r' => exact h.elim
    | ideal y =>
      obtain ⟨c, hc⟩ := h.1
      show openO y key no head s = (d, true)
      have ho : openO x key no head s = (d, true) := ho
      unfold openO at ho ⊢
      rw [← hc, List.find?_append]
      cases hf : x.issued.find? fun i => matchI i key no head s with
      | none => rw [hf] at ho; cases ho
      | some i => rw [hf] at ho; exact ho
/-- the numbers of what was sealed are its places -/
def numO (x : Orc) : Prop := x.issued.length < 2 ^ 40 ∧ ∀ j (h : j < x.issued.length), x.issued[j].out.tag.b = UInt64.ofNat (j + 1)
def numL : Lk → Prop
  | .real r => ∀ key no head data, head.length ≤ 4000 → data.length ≤ 4000 → (r.sea key no head data).2 = true ∧ (r.sea key no head data).1.bytes.length = data.length ∧ r.opn key no head (r.sea key no head data).1 = (data, true)
  | .ideal x => numO x
theorem ofNat_inj {a b : Nat} (ha : a < 2 ^ 64) (hb : b < 2 ^ 64) (h : UInt64.ofNat a = UInt64.ofNat b) : a = b := by
  have := congrArg UInt64.toNat h
  rw [UInt64.toNat_ofNat', UInt64.toNat_ofNat'] at this
  omega
theorem sea_open {lk : Lk} (h : numL lk) (key : Pair) (no : Nonce) {head data : List UInt8} (hh : head.length ≤ 4000) (hd : data.length ≤ 4000) :
    (sealL lk key no head data).1.2 = true ∧ (sealL lk key no head data).1.1.bytes.length = data.length ∧ openL (sealL lk key no head data).2 key no head (sealL lk key no head data).1.1 = (data, true) := by
  cases lk with
  | real r => exact h key no head data hh hd
  | ideal x =>
    obtain ⟨h1, h2⟩ := h
    have e : sealO x key no head data = ((sealB (UInt64.ofNat (x.issued.length + 1)) data.length, true), { x with issued := x.issued ++ [⟨key, no, head, data, sealB (UInt64.ofNat (x.issued.length + 1)) data.length⟩] }) := by
      unfold sealO; rw [if_pos ⟨hh, hd⟩]
    unfold sealL
    simp only [e]
    refine ⟨trivial, by unfold sealB; rw [cyc_len], ?_⟩
    show openO _ key no head _ = _
    unfold openO
    have hf : ∀ (l : List Issue), (∀ y ∈ l, y ∈ x.issued) → (l ++ [(⟨key, no, head, data, sealB (UInt64.ofNat (x.issued.length + 1)) data.length⟩ : Issue)]).find? (fun i => matchI i key no head (sealB (UInt64.ofNat (x.issued.length + 1)) data.length)) = some ⟨key, no, head, data, sealB (UInt64.ofNat (x.issued.length + 1)) data.length⟩ := by
      intro l hl
      refine find_mid (l2 := []) (fun y hy => ?_) ?_
      · obtain ⟨j, hj, rfl⟩ := List.getElem_of_mem (hl y hy)
        rw [matchI]
        have : ¬ x.issued[j].out.tag = (sealB (UInt64.ofNat (x.issued.length + 1)) data.length).tag := by
          intro ht
          have := congrArg Pair.b ht
          rw [h2 j hj] at this
          have := ofNat_inj (by omega) (by omega) (show UInt64.ofNat (j + 1) = UInt64.ofNat (x.issued.length + 1) from this)
          omega
        simp only [this, decide_false, Bool.false_and, Bool.and_false]
      · rw [matchI]; simp
    rw [hf _ fun _ h => h]
theorem sum_num {lk : Lk} (h : numL lk) (k : List UInt8) : numL (sumL lk k).2 := by
  cases lk with
  | real r => exact h
  | ideal x =>
    unfold sumL sumO
    simp only
    split
    · exact h
    · exact h
theorem sea_num {lk : Lk} {n : Nat} (h : numL lk) (hf : fitL lk n) (hn : n ≤ 2 ^ 30) (key : Pair) (no : Nonce) (head data : List UInt8) : numL (sealL lk key no head data).2 := by
  cases lk with
  | real r => exact h
  | ideal x =>
    have h0 := hf.1
    obtain ⟨h1, h2⟩ := h
    unfold sealL sealO
    simp only
    split
    · refine ⟨by simp; omega, ?_⟩
      intro j hj
      simp only [List.length_append, List.length_singleton] at hj
      by_cases hjl : j < x.issued.length
      · simp only [List.getElem_append_left hjl]
        exact h2 j hjl
      · have : j = x.issued.length := by omega
        subst this
        simp [sealB]
    · exact ⟨h1, h2⟩
theorem leaves_num {lk : Lk} (h : numL lk) (rows : List (List UInt8)) (i : Nat) : numL (leavesT lk rows i).2 := by
  induction i with
  | zero => exact h
  | succ i ih => exact sum_num ih _
theorem nodes_num {m : Nat} {s : List Pair × Lk} (h : numL s.2) (i : Nat) : numL (nodesT m s i).2 := by
  induction i with
  | zero => exact h
  | succ i ih => exact sum_num ih _
theorem build_num {lk : Lk} (h : numL lk) (rows : List (List UInt8)) : numL (buildT lk rows).2 := by
  rw [buildT]
  exact nodes_num (leaves_num h rows _) _
end Go.Lb
