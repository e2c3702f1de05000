/- Soundness of the translation of operations. No statement of the seat is proved in this file. -/
import Derived.Test.YtkblnbbpeakgmaaGreatE
set_option linter.all false
namespace Go.Lb
section
variable {P : Program}

theorem eqa_ok {neg : Bool} {ks : List (Option IntKind)} {t : Nat} {op : BinOp} {xo yo : Operand} {x y v : Value} {d : TypeDesc} (hd : P.underlying t = some d) (ha : isAggD d = true)
    (hg : P.eqGuardType P.depth t = false) (hf : flatOf P 8 t = some ks) (hop : op = if neg then .neq else .eql)
    (h : (Pu.eqa neg ks x y).ev = some v) (w : World) : (do eqGuard op t xo yo x y; binOp op t x y : Sem Value).run P w = .ok v w := by
  simp only [Pu.ev] at h
  split at h
  · rename_i a b
    simp only [Option.map_eq_some_iff] at h
    obtain ⟨r, hr, rfl⟩ := h
    have := flat_run 8 t ks d a.toList b.toList r 10000 w (by omega) hf hd hr
    simp only [valOf, ha, if_true] at this
    subst hop
    cases neg
    · simp [run_eqGuard_agg w _ _ _ _ _ _ hg, run_eql_struct, this]
    · simp [run_eqGuard_agg w _ _ _ _ _ _ hg, run_neq_struct, this]
  · cases h

theorem lftV {s : Sem Value} {v : Value} {w w' : World} (h : s.run P w = .ok v w') : (do pure (.value (← s)) : Sem Next).run P w = .ok (.value v) w' := by
  rw [Sem.run_bind, h]; rfl

theorem trEq_ok {i : TyI} {t : Nat} {op : BinOp} {neg : Bool} {xo yo : Operand} {x y : Value} {nd : Nd} {hb : Nat → Bool} (ht : tyOf P t = some i) (hop : op = if neg then .neq else .eql) (h : trEq i neg x y = some nd) :
    nd.ok P hb (do pure (.value (← (do eqGuard op t xo yo x y; binOp op t x y : Sem Value)))) := by
  obtain ⟨d, hd, hk⟩ := ty_k ht
  unfold trEq at h
  cases hi : i.k <;> rw [hi] at h hk <;> simp only at h hk
  case bool => cases h; subst hk; exact fun v hv w => lftV (eqb_ok hd hop hv w)
  case ptr => cases h; obtain ⟨e, rfl⟩ := hk; exact fun v hv w => lftV (eqn_ok (k := .ptr) hd trivial hop hv w)
  case fn => cases h; obtain ⟨a, b, c, rfl⟩ := hk; exact fun v hv w => lftV (eqn_ok (k := .fn) hd trivial hop hv w)
  case slc => cases h; obtain ⟨rfl, _⟩ := hk; exact fun v hv w => lftV (eqn_ok (k := .slc) hd trivial hop hv w)
  case map => cases h; obtain ⟨a, b, rfl, _⟩ := hk; exact fun v hv w => lftV (eqn_ok (k := .map) hd trivial hop hv w)
  case stc =>
    simp only [Option.map_eq_some_iff] at h
    obtain ⟨ks, hks, rfl⟩ := h
    obtain ⟨hg, hf⟩ := ty_flat ht hks
    obtain ⟨g, rfl, _⟩ := hk
    exact fun v hv w => lftV (eqa_ok hd rfl hg hf hop hv w)
  case arr =>
    simp only [Option.map_eq_some_iff] at h
    obtain ⟨ks, hks, rfl⟩ := h
    obtain ⟨hg, hf⟩ := ty_flat ht hks
    obtain ⟨rfl, _⟩ := hk
    exact fun v hv w => lftV (eqa_ok hd rfl hg hf hop hv w)
  all_goals (cases h)

theorem trBin_ok {i : TyI} {t : Nat} {op : BinOp} {xo yo : Operand} {x y : Value} {nd : Nd} {hb : Nat → Bool} (ht : tyOf P t = some i) (h : trBin i op x y = some nd) :
    nd.ok P hb (do pure (.value (← (do eqGuard op t xo yo x y; binOp op t x y : Sem Value)))) := by
  unfold trBin at h
  split at h
  · cases h; exact fun v hv w => lftV (bin_ok hv w)
  · split at h
    · exact trEq_ok ht rfl h
    · exact trEq_ok ht rfl h
    · cases h

/-! ### building -/
theorem fill_eq (place : Nat → Option (Nat × Nat)) : ∀ (ps : List (Nat × Value)) (qs : List (Nat × Nat × Value)) (cs : List Value),
    (qs.map fun q => (some (q.1, q.2.1), q.2.2)) = (ps.map fun p => (place p.1, p.2)) → ∀ l, bldV cs qs = some l → Instr.fill place ⟨cs⟩ ps = some ⟨l⟩
  | [], qs, cs, he, l, h => by
    have : qs = [] := by simpa using he
    subst this
    cases h
    rfl
  | (i, v) :: ps, qs, cs, he, l, h => by
    cases qs with
    | nil => simp at he
    | cons q qs =>
      obtain ⟨off, n, u⟩ := q
      simp only [List.map_cons, List.cons.injEq, Prod.mk.injEq] at he
      obtain ⟨⟨hp, rfl⟩, he⟩ := he
      simp only [bldV] at h
      split at h
      · rename_i hc
        have hz : (u.cells.zipIdx.foldl (fun cs (x : Value × Nat) => cs.setIfInBounds (off + x.2) x.1) (⟨cs⟩ : Array Value)) = ⟨splice cs off u.cells.toList⟩ := by
          have key : ∀ (xs : List Value) (k : Nat) (cs : List Value), off + k + xs.length ≤ cs.length →
              (xs.zipIdx k).foldl (fun (cs : Array Value) (x : Value × Nat) => cs.setIfInBounds (off + x.2) x.1) (⟨cs⟩ : Array Value) = ⟨if xs = [] then cs else splice cs (off + k) xs⟩ := by
            intro xs
            induction xs with
            | nil => intro k cs _; simp
            | cons x xs ih =>
              intro k cs hl
              simp only [List.length_cons] at hl
              rw [List.zipIdx_cons, List.foldl_cons]
              rw [setIf_splice _ _ _ (by simp; omega)]
              have hl' : (splice cs (off + k) [x]).length = cs.length := splice_len (by simp; omega)
              rw [ih (k + 1) _ (by rw [hl']; omega)]
              simp only [reduceCtorEq, if_false]
              congr 1
              split
              · rename_i hx; subst hx; rfl
              · have := splice_cons (l := cs) (o := off + k) (v := x) (xs := xs) (by omega)
                rw [show off + (k + 1) = off + k + 1 from by omega, this]
          rw [← Array.foldl_toList]
          have := key u.cells.toList 0 cs (by omega)
          simp only [Array.toList_zipIdx]
          rw [this]
          congr 1
          split
          · rename_i hx
            simp [splice, hx]
          · rfl
        simp only [Instr.fill, ← hp]
        have h1 : ¬ (u.cells.size ≠ n || off + u.cells.size > (⟨cs⟩ : Array Value).size) = true := by
          simp at hc ⊢
          refine ⟨hc.1, by omega⟩
        rw [if_neg (by simpa using h1)]
        rw [hz]
        exact fill_eq place ps qs _ he l h
      · cases h

theorem fld_inv {f : Field} {off n : Nat} {agg : Bool} (h : fldOf P f = (off, n, agg)) (hn : n ≠ 0) : off = f.offset ∧ ∃ j d, P.info? f.type = some j ∧ P.underlying f.type = some d ∧ n = j.size ∧ agg = isAggD d := by
  unfold fldOf at h
  split at h
  · rename_i j d hj hd; cases h; exact ⟨rfl, j, d, hj, hd, rfl, rfl⟩
  · cases h; exact absurd rfl hn

theorem places_eq {fs : Array Field} {ev : Operand → Value} : ∀ (ps : List (Nat × Operand)) (qs : List (Nat × Nat × Value)),
    placesOf (fs.toList.map (fldOf P)) ev ps = some qs →
    (qs.map fun q => (some (q.1, q.2.1), q.2.2)) = ((ps.map fun (i, x) => (i, ev x)).map fun p => ((fs.toList.map fun f => (f.offset, (fldOf P f).2.1))[p.1]?, p.2))
  | [], qs, h => by simp [placesOf] at h; subst h; rfl
  | (i, x) :: ps, qs, h => by
    simp only [placesOf] at h
    split at h
    · rename_i off n ag r h1 h2
      split at h
      · cases h
      · rename_i hn
        cases h
        have := places_eq ps r h2
        simp only [List.map_cons, this, List.cons.injEq, Prod.mk.injEq, and_true]
        simp only [List.getElem?_map, Option.map_eq_some_iff] at h1 ⊢
        obtain ⟨f, hf, e⟩ := h1
        have := fld_inv e hn
        rw [hf]
        simp [e, this.1]
    · cases h

theorem repL_eq (z : Array Value) (n : Nat) : ((Array.range (n * z.size)).map (z[· % z.size]!)) = ⟨repL z.toList n⟩ := by
  apply Array.ext'
  simp only [Array.toList_map, Array.toList_range]
  induction n with
  | zero => simp [repL]
  | succ n ih =>
    have hr : List.range ((n + 1) * z.size) = List.range z.size ++ (List.range (n * z.size)).map (z.size + ·) := by
      rw [Nat.succ_mul, Nat.add_comm, List.range_add]
    rw [hr, List.map_append, List.map_map]
    simp only [repL]
    congr 1
    · apply List.ext_getElem
      · simp
      · intro i h1 h2
        simp at h1
        simp [Nat.mod_eq_of_lt h1, h1]
    · rw [← ih]
      apply List.map_congr_left
      intro a _
      simp

end
end Go.Lb
