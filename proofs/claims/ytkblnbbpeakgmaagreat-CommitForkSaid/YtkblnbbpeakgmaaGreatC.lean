/- What the nodes say is what the operations do. No statement of the seat is proved in this file. -/
import Derived.Test.YtkblnbbpeakgmaaGreatB
import Derived.Laws.StructEq
import Derived.Laws.Slices
import Derived.Laws.Unary
import Derived.ChangeKeysEq
set_option linter.all false
namespace Go.Lb

theorem ty_inv {P : Program} {t : Nat} {i : TyI} (h : tyOf P t = some i) : ∃ j d, P.info? t = some j ∧ P.underlying t = some d ∧ i.agg = isAggD d ∧ i.size = j.size ∧ i.bytes = j.bytes ∧ i.zero = j.zero.getD (.tuple #[]) := by
  unfold tyOf at h
  split at h
  · rename_i j d hj hd
    cases h
    exact ⟨j, d, hj, hd, rfl, rfl, rfl, rfl⟩
  · cases h

section
variable {P : Program} {w : World}

theorem rN_underlying {t : Nat} {d : TypeDesc} (h : P.underlying t = some d) : (underlying t).run P w = .ok d w := run_underlying h w
theorem rN_typeInfo {t : Nat} {i : TypeInfo} (h : P.info? t = some i) : (typeInfo t).run P w = .ok i w := by simp [typeInfo, h]
theorem rN_sizeOf {t : Nat} {i : TypeInfo} (h : P.info? t = some i) : (sizeOf t).run P w = .ok i.size w := by simp [sizeOf, rN_typeInfo h]
theorem rN_isAgg {t : Nat} {d : TypeDesc} (h : P.underlying t = some d) : (isAgg t).run P w = .ok (isAggD d) w := by
  simp only [isAgg, Sem.run_bind, rN_underlying h, Result.andThen_ok]
  cases d <;> rfl
theorem rN_zero {t : Nat} {i : TypeInfo} {z : Value} (h : P.info? t = some i) (hz : i.zero = some z) : (zeroValue t).run P w = .ok z w := by
  simp [zeroValue, rN_typeInfo h, hz]

/-! ### Reading -/
theorem cell_of_rdN {a : Addr} {n : Nat} {l : List Value} (h : rdN (hof w) a n = some l) : l.length = n ∧ ∀ j v, l[j]? = some v → w.cell? (a.add j) = some v := by
  unfold rdN at h
  split at h
  · rename_i h0
    cases h
    exact ⟨h0.symm, fun j v hv => by cases hv⟩
  split at h
  · rename_i c e fz hc
    split at h
    · rename_i hb
      cases h
      refine ⟨by simp; omega, ?_⟩
      intro j v hv
      have hj : j < n := by
        rcases Nat.lt_or_ge j n with h | h
        · exact h
        · rw [List.getElem?_take, if_neg (by omega)] at hv; cases hv
      have hv' : c[a.off + j]? = some v := by
        rw [List.getElem?_take, if_pos hj, List.getElem?_drop] at hv
        simpa using hv
      unfold World.cell? Addr.add
      by_cases h0 : j = 0
      · subst h0
        simp only [if_true]
        rw [show w.heap[a.block]? = _ from hc]
        simp [hb.1]
        simpa using hv'
      · simp only [h0, if_false]
        rw [show w.heap[a.block]? = _ from hc]
        simpa using hv'
    · cases h
  · cases h

theorem rN_loadFrom (a : Addr) (l : List Value) : ∀ (i : Nat) (acc : Array Value), (∀ j v, l[j]? = some v → w.cell? (a.add (i + j)) = some v) →
    (loadCellsFrom a i l.length acc).run P w = .ok (acc ++ l.toArray) w := by
  induction l with
  | nil => intro i acc _; simp [loadCellsFrom]
  | cons v l ih =>
    intro i acc h
    have h0 := h 0 v (by simp)
    simp only [Nat.add_zero] at h0
    simp only [List.length_cons, loadCellsFrom, Sem.run_bind, run_load, h0, Result.andThen_ok]
    rw [ih (i + 1) (acc.push v) fun j u hu => by have := h (j + 1) u (by simpa using hu); rwa [show i + 1 + j = i + (j + 1) from by omega]]
    simp

theorem rN_load {a : Addr} {n : Nat} {l : List Value} (h : rdN (hof w) a n = some l) : (loadCells a n).run P w = .ok ⟨l⟩ w := by
  obtain ⟨e, hc⟩ := cell_of_rdN h
  subst e
  have := rN_loadFrom (P := P) (w := w) a l 0 #[] (by simpa using hc)
  simpa [loadCells] using this

theorem rN_load1 {a : Addr} {v : Value} (h : rdN (hof w) a 1 = some [v]) : (load a).run P w = .ok v w := by
  obtain ⟨_, hc⟩ := cell_of_rdN h
  have := hc 0 v (by simp)
  simp [Addr.add] at this
  simp [this]

theorem rN_loadVar {t : Nat} {i : TyI} (ht : tyOf P t = some i) {x v : Value} (h : (Rd.ld i.agg i.size x).ev (hof w) = some v) : (Instr.loadAt t x).run P w = .ok v w := by
  obtain ⟨j, d, hj, hd, ha, hs, _, _⟩ := ty_inv ht
  unfold Rd.ev at h
  split at h <;> try cases h
  · rename_i agg n a heq
    cases heq
    cases hr : rdN (hof w) a i.size with
    | none => rw [hr] at h; cases h
    | some l =>
      rw [hr] at h
      simp only [Instr.loadAt, Instr.sureAddr, Sem.run_bind, Sem.run_pure, Result.andThen_ok, loadVar, rN_isAgg hd, Sem.run_ite, ← ha]
      simp only at h
      by_cases hg : i.agg = true
      · rw [if_pos hg] at h ⊢
        cases h
        rw [rN_sizeOf hj, Result.andThen_ok, ← hs, rN_load hr]
        rfl
      · rw [if_neg hg] at h ⊢
        match l, h, hr with
        | [u], h, hr =>
          cases h
          have hl : i.size = 1 := by have := (cell_of_rdN hr).1; simpa using this.symm
          rw [hl] at hr
          exact rN_load1 hr
  all_goals (rename_i heq; cases heq)

/-! ### Writing -/
theorem setIf_splice (c : Array Value) (o : Nat) (v : Value) (h : o < c.size) : c.setIfInBounds o v = ⟨splice c.toList o [v]⟩ := by
  apply Array.ext'
  simp only [Array.toList_setIfInBounds, splice, List.length_singleton]
  rw [List.set_eq_take_append_cons_drop]
  simp [h]

theorem splice_len {l xs : List Value} {o : Nat} (h : o + xs.length ≤ l.length) : (splice l o xs).length = l.length := by
  simp [splice]; omega

theorem splice_cons {l xs : List Value} {o : Nat} {v : Value} (h : o + (xs.length + 1) ≤ l.length) : splice (splice l o [v]) (o + 1) xs = splice l o (v :: xs) := by
  unfold splice
  simp only [List.length_cons, List.length_nil, Nat.zero_add]
  have h1 : (List.take o l ++ [v] ++ List.drop (o + 1) l).take (o + 1) = List.take o l ++ [v] := by
    rw [List.take_append_of_le_length (by simp; omega)]
    rw [List.take_of_length_le (by simp; omega)]
  have h2 : (List.take o l ++ [v] ++ List.drop (o + 1) l).drop (o + 1 + xs.length) = l.drop (o + (xs.length + 1)) := by
    rw [List.drop_append]
    have : (List.take o l ++ [v]).length = o + 1 := by simp; omega
    rw [this, List.drop_of_length_le (by simp; omega), List.drop_drop]
    simp; congr 1; omega
  rw [h1, h2]
  simp

theorem hof_wset {b : Nat} {o : Obj} (hb : b < w.heap.size) (i : Nat) : hof (wset w b o) i = if i = b then some o else hof w i := by
  unfold hof wset
  simp only
  by_cases h : i = b
  · subst h; simp [hb]
  · rw [if_neg h, Array.getElem?_setIfInBounds_ne (fun e => h e.symm)]

theorem setCell_eq {b o : Nat} {c : Array Value} {e : Nat} {fz : Nat × Nat} {v : Value} (h : w.heap[b]? = some (.cells c e fz)) (ho : o < c.size) :
    w.setCell ⟨b, o, none⟩ v = wset w b (.cells ⟨splice c.toList o [v]⟩ e fz) := by
  obtain ⟨hb, hx⟩ := Array.getElem?_eq_some_iff.1 h
  unfold World.setCell wset
  congr 1
  apply Array.ext
  · simp
  · intro i hi _
    simp only [Array.size_modify] at hi
    rw [Array.getElem_modify]
    by_cases hib : b = i
    · subst hib
      simp [hx, setIf_splice c o v ho]
    · rw [if_neg hib, Array.getElem_setIfInBounds_ne (h := hib)]

theorem wset_wset {b : Nat} {o o' : Obj} : wset (wset w b o) b o' = wset w b o' := by
  unfold wset
  simp

theorem rN_storeCells : ∀ (xs : List Value) (b o i : Nat) (c : Array Value) (e : Nat) (fz : Nat × Nat) (w : World), w.heap[b]? = some (.cells c e fz) → o + i + xs.length ≤ c.size →
    (fz.2 ≤ o + i ∨ o + i + xs.length ≤ fz.1) → xs.all Value.oneCell' = true → (xs ≠ []) →
    (storeCells ⟨b, o, none⟩ xs i).run P w = .ok () (wset w b (.cells ⟨splice c.toList (o + i) xs⟩ e fz))
  | [], _, _, _, _, _, _, _, _, _, _, _, h => absurd rfl h
  | v :: xs, b, o, i, c, e, fz, w, hc, hl, hf, ha, _ => by
    simp only [List.all_cons, Bool.and_eq_true] at ha
    simp only [List.length_cons] at hl hf
    have hadd : (⟨b, o, none⟩ : Addr).add i = ⟨b, o + i, none⟩ := by unfold Addr.add; split <;> simp_all
    have hcell : w.cell? ⟨b, o + i, none⟩ = some c[o + i] := by
      unfold World.cell?
      simp only [hc]
      simp
    have hfz : w.frozen? ⟨b, o + i, none⟩ = false := by
      obtain ⟨lo, hi⟩ := fz
      unfold World.frozen?
      simp only [hc]
      simp only at hf
      simp
      omega
    simp only [storeCells, Sem.run_bind, hadd, run_store P w _ v _ ha.1, hcell, hfz, Bool.false_eq_true, if_false, Result.andThen_ok]
    rw [setCell_eq hc (by omega)]
    have hb : b < w.heap.size := (Array.getElem?_eq_some_iff.1 hc).1
    cases xs with
    | nil => simp [storeCells]
    | cons u xs =>
      have hc' : (wset w b (.cells ⟨splice c.toList (o + i) [v]⟩ e fz)).heap[b]? = some (.cells ⟨splice c.toList (o + i) [v]⟩ e fz) := by
        have := hof_wset (w := w) (o := .cells ⟨splice c.toList (o + i) [v]⟩ e fz) hb b
        rw [if_pos rfl] at this
        exact this
      have hlen : (splice c.toList (o + i) [v]).length = c.size := by rw [splice_len (by simp; omega)]; simp
      rw [rN_storeCells (u :: xs) b o (i + 1) ⟨splice c.toList (o + i) [v]⟩ e fz _ hc' (by show _ ≤ (splice c.toList (o + i) [v]).length; rw [hlen]; simp at hl ⊢; omega)
        (by simp at hf ⊢; omega) ha.2 (by simp)]
      rw [wset_wset]
      simp only
      rw [← Nat.add_assoc, splice_cons (by simp at hl ⊢; omega)]

theorem rN_wr {a : Addr} {xs : List Value} {w' : World} (h : wrN w a xs = some w') (hx : xs ≠ []) : (storeCells a xs).run P w = .ok () w' := by
  unfold wrN at h
  split at h
  · rename_i ha
    split at h
    · rename_i c e fz hc
      split at h
      · rename_i hb
        cases h
        obtain ⟨b, o, s⟩ := a
        obtain rfl : s = none := hb.1
        simpa using rN_storeCells (P := P) xs b o 0 c e fz w hc (by simpa using hb.2.1) (by simpa using hb.2.2) ha hx
      · cases h
    · cases h
  · cases h

theorem wr_nil {a : Addr} {w' : World} (h : wrN w a [] = some w') : w' = w := by
  unfold wrN at h
  simp at h
  split at h
  · rename_i c e fz hc
    split at h
    · cases h
      have hb : a.block < w.heap.size := (Array.getElem?_eq_some_iff.1 hc).1
      have hx := (Array.getElem?_eq_some_iff.1 hc).2
      unfold wset splice
      simp
      have : w.heap.setIfInBounds a.block (Obj.cells c e fz) = w.heap := by
        apply Array.ext
        · simp
        · intro i hi _
          rw [Array.getElem_setIfInBounds]
          split
          · subst_vars; exact hx.symm
          · rfl
      rw [this]
    · cases h
  · cases h

theorem rN_wr0 {a : Addr} {xs : List Value} {w' : World} (h : wrN w a xs = some w') : (storeCells a xs).run P w = .ok () w' := by
  cases xs with
  | nil => rw [wr_nil h]; simp [storeCells]
  | cons v xs => exact rN_wr h (by simp)

theorem rN_store {t : Nat} {i : TyI} (ht : tyOf P t = some i) {x v u : Value} {w' : World} (h : (Hv.st i.size x v).run w = some (u, w')) :
    u = .tuple #[] ∧ (Instr.storeAt t x v).run P w = .ok () w' := by
  obtain ⟨j, d, hj, hd, ha, hs, _, _⟩ := ty_inv ht
  unfold Hv.run at h
  split at h <;> try cases h
  · rename_i n a v heq
    cases heq
    split at h
    · rename_i hl
      cases hw : wrN w a v.cells.toList with
      | none => rw [hw] at h; cases h
      | some w1 =>
        rw [hw] at h
        cases h
        refine ⟨rfl, ?_⟩
        simp only [Instr.storeAt, Instr.sureAddr, Sem.run_bind, Sem.run_pure, Result.andThen_ok, storeVar, rN_sizeOf hj, Sem.run_ite]
        rw [if_neg (by rw [hs] at hl; simp at hl; simp [hl])]
        exact rN_wr0 hw
    · cases h
  all_goals (rename_i heq; cases heq)

end
end Go.Lb
