/- Soundness of the translation of operations that touch memory; all together. No statement of the seat is proved in this file. -/
import Derived.Test.YtkblnbbpeakgmaaGreatG
set_option linter.all false
namespace Go.Lb
section
variable {P : Program}

theorem zero_cells {t : Nat} {i : TyI} {e es eb : Nat} {by_ : Bool} {ez : List Value} (ht : tyOf P t = some i) (hk : i.k = .slc e es eb by_ ez) :
    P.underlying t = some (.slice e) ∧ ∃ j, P.info? e = some j ∧ es = j.size ∧ eb = j.bytes ∧ (ez.length = es → 0 < es → ∃ z, j.zero = some z ∧ z.cells.toList = ez) ∧ (by_ = true → P.underlying e = some (.int .u8)) := by
  obtain ⟨d, hd, hki⟩ := ty_k ht
  rw [hk] at hki
  obtain ⟨rfl, j, de, hj, hde, h1, h2, h3, h4, h5⟩ := hki
  refine ⟨hd, j, hj, h1, h2, ?_, fun hb => by rw [hde, h3 hb]⟩
  intro hl hp
  cases hz : j.zero with
  | none => rw [h5 hz] at hl; simp at hl; omega
  | some z => exact ⟨z, rfl, (h4 z hz).symm⟩

theorem cells_len {h : HH} {es n : Nat} {x : Value} {l : List Value} (hc : cellsOfV h es n x = some l) : l.length = n * es := by
  unfold cellsOfV at hc
  split at hc
  · rename_i a _ _
    unfold rdN at hc
    split at hc
    · rename_i h0; cases hc; exact h0.symm
    split at hc
    · split at hc
      · rename_i hb; cases hc; simp; omega
      · cases hc
    · cases hc
  · split at hc
    · rename_i hn; cases hc; simp [hn]
    · cases hc
  · cases hc

theorem firstCells_run {w : World} {es n : Nat} {x : Value} {l : List Value} (hc : cellsOfV (hof w) es n x = some l) : (Builtin.firstCells es n x).run P w = .ok ⟨l⟩ w := by
  unfold cellsOfV at hc
  split at hc
  · simpa [Builtin.firstCells] using rN_load hc
  · split at hc
    · cases hc; simp [Builtin.firstCells]
    · cases hc
  · cases hc

theorem zeroCells_eq {z : Array Value} {ez : List Value} (hz : z.toList = ez) (n : Nat) : Builtin.zeroCells z n = ⟨repL ez n⟩ := by
  unfold Builtin.zeroCells
  rw [repL_eq, hz]

theorem app_ok {t t2 : Nat} {ty : Nat} {i i2 : TyI} {e es eb : Nat} {by_ : Bool} {ez : List Value} {s x v : Value} {w w' : World} {e2 es2 eb2 : Nat} {b2 : Bool} {ez2 : List Value}
    (ht : tyOf P t = some i) (hk : i.k = .slc e es eb by_ ez) (ht2 : tyOf P t2 = some i2) (hk2 : i2.k = .slc e2 es2 eb2 b2 ez2)
    (h : (Hv.app e es eb ez s x).run w = some (v, w')) {ats : Array TypeId} (ha0 : ats[0]? = some t) (ha1 : ats[1]? = some t2) : (Builtin.append_ ats ty #[s, x]).run P w = .ok v w' := by
  obtain ⟨hu, j, hj, rfl, rfl, hz, _⟩ := zero_cells ht hk
  obtain ⟨hu2, _⟩ := zero_cells ht2 hk2
  simp only [Hv.run] at h
  split at h
  any_goals (rename_i heq; cases heq)
  · rename_i base sLen sCap xb n xc
    split at h
    · rename_i hc0
      obtain ⟨c1, c2, c3⟩ := hc0
      obtain ⟨z, hz1, hz2⟩ := hz c1 c2
      simp only [Builtin.append_, ha0, ha1]
      simp only [List.getElem?_toArray, List.getElem?_cons_zero, List.getElem?_cons_succ]
      simp only [Sem.run_bind, rN_underlying hu, rN_underlying hu2, Result.andThen_ok, rN_sizeOf hj, Sem.run_pure, Bool.false_eq_true, if_false, Builtin.lenOf, Bool.not_false, if_true]
      split at h
      · rename_i hcap
        rw [if_pos hcap]
        cases hxs : cellsOfV (hof w) j.size n (.slice xb n xc) with
        | none => rw [hxs] at h; cases h
        | some xs =>
          rw [hxs] at h
          simp only [Sem.run_bind, firstCells_run hxs, Result.andThen_ok]
          cases base with
          | none =>
            simp only at h
            split at h
            · cases h; simp
            · cases h
          | some a =>
            simp only at h ⊢
            split at h
            · rename_i hx0
              cases h
              subst hx0
              simp [storeCells]
            · rename_i hx0
              simp only [Option.map_eq_some_iff] at h
              obtain ⟨w1, hw, e⟩ := h
              cases e
              simp [rN_wr hw hx0]
      · rename_i hcap
        rw [if_neg hcap]
        split at h
        · cases h
        · rename_i hnx
          cases hold : cellsOfV (hof w) j.size sLen (.slice base sLen sCap) with
          | none => rw [hold] at h; cases h
          | some old =>
            cases hxs : cellsOfV (hof w) j.size n (.slice xb n xc) with
            | none => rw [hold, hxs] at h; cases h
            | some xs =>
              rw [hold, hxs] at h
              simp only at h
              cases h
              have hb0 : j.bytes ≠ 0 := by omega
              simp only [Sem.run_bind, rN_typeInfo hj, Result.andThen_ok]
              simp only [hb0, or_self, and_false, if_false, Sem.run_pure, Result.andThen_ok, Sem.run_ite, if_neg hnx]
              simp only [false_or, and_false, if_false, Sem.run_pure, Result.andThen_ok, Sem.run_bind, run_choose, Question.forced, Bool.false_eq_true, rN_typeInfo hj, run_askRoom, if_neg hnx]
              have hold' : cellsOfV (hof { w with drawn := w.drawn + 1 }) j.size sLen (.slice base sLen sCap) = some old := hold
              have hxs' : cellsOfV (hof { w with drawn := w.drawn + 1 }) j.size n (.slice xb n xc) = some xs := hxs
              simp only [firstCells_run hold', firstCells_run hxs', Result.andThen_ok, rN_zero hj hz1, newRow, Sem.run_bind, run_newObj, Sem.run_pure]
              rw [zeroCells_eq hz2]
              simp
    · cases h
  all_goals (cases h)

theorem apz_ok {t t2 : Nat} {ty : Nat} {i i2 : TyI} {e es eb : Nat} {by_ : Bool} {ez : List Value} {s x v : Value} {w w' : World}
    (ht : tyOf P t = some i) (hk : i.k = .slc e es eb by_ ez) (ht2 : tyOf P t2 = some i2) (hk2 : i2.k = .int .i64)
    (h : (Hv.apz e es eb ez s x).run w = some (v, w')) {ats : Array TypeId} (ha0 : ats[0]? = some t) (ha1 : ats[1]? = some t2) : (Builtin.append_ ats ty #[s, x]).run P w = .ok v w' := by
  obtain ⟨hu, j, hj, rfl, rfl, hz, _⟩ := zero_cells ht hk
  obtain ⟨d2, hu2, hki2⟩ := ty_k ht2
  rw [hk2] at hki2
  simp only at hki2
  subst hki2
  cases s <;> first | (cases h; done) | skip
  rename_i base sLen sCap
  cases x <;> first | (cases h; done) | skip
  rename_i k n
  cases k <;> first | (cases h; done) | skip
  simp only [Hv.run] at h
  split at h
  · rename_i hc0
    obtain ⟨c1, c2, c3, c4, c5, c6, c7, c8⟩ := hc0
    obtain ⟨z, hz1, hz2⟩ := hz c1 c2
    cases hold : cellsOfV (hof w) j.size sLen (.slice base sLen sCap) with
    | none => rw [hold] at h; cases h
    | some old =>
      rw [hold] at h
      simp only at h
      cases h
      have hn48 : n ≤ 2 ^ 48 := by
        have : n * 1 ≤ n * (j.bytes : Int) := Int.mul_le_mul_of_nonneg_left (by omega) (by omega)
        omega
      have wn : IntKind.i64.wrap n = n := by simp [IntKind.wrap, IntKind.bits, IntKind.signed]; omega
      have e1 : ¬ n < 0 := by omega
      have e2 : ¬ (n * (j.bytes : Int) > 2 ^ 48) := by omega
      have e3 : ¬ (sLen + n.toNat ≤ sCap) := by omega
      have e4 : ¬ (((sLen + n.toNat : Nat) : Int) > IntKind.i64.max) := by simp [IntKind.max, IntKind.bits, IntKind.signed]; omega
      have e5 : ¬ (Builtin.nextslicecap (sLen + n.toNat) sCap * j.bytes > 2 ^ 48) := by omega
      have e6 : ¬ (n.toNat * j.size = 0) := by
        intro h
        rcases Nat.mul_eq_zero.1 h with h | h <;> omega
      have hold' : cellsOfV (hof { w with drawn := w.drawn + 1 }) j.size sLen (.slice base sLen sCap) = some old := hold
      simp only [Builtin.append_, ha0, ha1]
      simp only [List.getElem?_toArray, List.getElem?_cons_zero, List.getElem?_cons_succ]
      simp only [Sem.run_bind, rN_underlying hu, rN_underlying hu2, Result.andThen_ok, rN_sizeOf hj, Sem.run_pure, if_true, asInt, asIntOf, wn, if_neg e1, rN_typeInfo hj, if_neg e2, if_neg e3]
      simp only [e4, false_and, if_false, Sem.run_pure, Result.andThen_ok, Sem.run_bind, rN_typeInfo hj, if_neg e5, run_choose, Question.forced, Bool.false_eq_true, run_askRoom,
        firstCells_run hold', Bool.not_true, if_neg e6, rN_zero hj hz1, newRow, run_newObj, zeroCells_eq hz2]
      simp
  · cases h

theorem cpy_ok {t ty : Nat} {i : TyI} {e es eb : Nat} {by_ : Bool} {ez : List Value} {s x v : Value} {w w' : World}
    (ht : tyOf P t = some i) (hk : i.k = .slc e es eb by_ ez) (h : (Hv.cpy es s x).run w = some (v, w')) {ats : Array TypeId} (ha0 : ats[0]? = some t) : (Builtin.copy_ ats ty #[s, x]).run P w = .ok v w' := by
  obtain ⟨hu, j, hj, rfl, rfl, hz, _⟩ := zero_cells ht hk
  simp only [Hv.run] at h
  split at h
  any_goals (rename_i heq; cases heq)
  · rename_i base dLen c xb n xc
    cases hxs : cellsOfV (hof w) j.size (Nat.min n dLen) (.slice xb n xc) with
    | none => rw [hxs] at h; cases h
    | some xs =>
      rw [hxs] at h
      simp only [Builtin.copy_, ha0]
      simp only [List.getElem?_toArray, List.getElem?_cons_zero, List.getElem?_cons_succ]
      simp only [Sem.run_bind, rN_underlying hu, Result.andThen_ok, rN_sizeOf hj, Sem.run_pure, Builtin.lenOf, firstCells_run hxs]
      cases base with
      | none => simp only at h; cases h; simp [goInt]
      | some a =>
        simp only at h ⊢
        split at h
        · rename_i hx0
          cases h
          subst hx0
          simp [storeCells, goInt]
        · rename_i hx0
          simp only [Option.map_eq_some_iff] at h
          obtain ⟨w1, hw, e⟩ := h
          cases e
          simp [rN_wr hw hx0, goInt]
  all_goals (cases h)

theorem clr_ok {t ty : Nat} {i : TyI} {e es eb : Nat} {by_ : Bool} {ez : List Value} {s v : Value} {w w' : World}
    (ht : tyOf P t = some i) (hk : i.k = .slc e es eb by_ ez) (h : (Hv.clr es ez s).run w = some (v, w')) {ats : Array TypeId} (ha0 : ats[0]? = some t) : (Builtin.clear_ ats ty #[s]).run P w = .ok v w' := by
  obtain ⟨hu, j, hj, rfl, rfl, hz, _⟩ := zero_cells ht hk
  simp only [Hv.run] at h
  split at h
  any_goals (rename_i heq; cases heq)
  · cases h
    simp only [Builtin.clear_, ha0]
    simp [rN_underlying hu]
  · rename_i a n c
    split at h
    · rename_i hc0
      obtain ⟨z, hz1, hz2⟩ := hz hc0.1 hc0.2
      split at h
      · rename_i h0
        cases h
        subst h0
        simp only [Builtin.clear_, ha0]
        simp [rN_underlying hu]
      · rename_i h0
        simp only [Option.map_eq_some_iff] at h
        obtain ⟨w1, hw, e⟩ := h
        cases e
        obtain ⟨n, rfl⟩ : ∃ m, n = m + 1 := ⟨n - 1, by omega⟩
        simp only [Builtin.clear_, ha0]
        simp only [List.getElem?_toArray, List.getElem?_cons_zero]
        simp only [Sem.run_bind, rN_underlying hu, Result.andThen_ok, rN_zero hj hz1, zeroCells_eq hz2, rN_wr0 hw, Sem.run_pure]
    · cases h
  all_goals (cases h)

/-! ### maps -/
theorem same_of_keyEq {kt : Nat} {kk : KK} (hk : kkOf P kt = some kk) : ∃ d, P.underlying kt = some d ∧ ∀ k x b, keyEq kk k x = some b → Instr.sameNow d k x = some b := by
  unfold kkOf at hk
  split at hk
  · rename_i q hd
    cases hk
    refine ⟨_, hd, ?_⟩
    intro k x b h
    cases k <;> cases x <;> simp only [keyEq] at h <;> first | (cases h; done) | (simpa [Instr.sameNow] using h)
  · rename_i hd
    cases hk
    refine ⟨_, hd, ?_⟩
    intro k x b h
    cases k <;> cases x <;> simp only [keyEq] at h <;> first | (cases h; done) | (simpa [Instr.sameNow] using h)
  · cases hk

theorem find_ok {kt : Nat} {kk : KK} {k : Value} (hk : kkOf P kt = some kk) : ∃ d, P.underlying kt = some d ∧ ∀ (es : List MapEntry) (i : Nat) (r : Option (Nat × Value)), mfind kk k es i = some r →
    Instr.findNow d k es i = some r := by
  obtain ⟨d, hd, hs⟩ := same_of_keyEq hk
  refine ⟨d, hd, ?_⟩
  intro es
  induction es with
  | nil => intro i r h; cases h; rfl
  | cons x es ih =>
    intro i r h
    simp only [mfind] at h
    simp only [Instr.findNow]
    cases hq : keyEq kk k x.key with
    | none => rw [hq] at h; cases h
    | some b =>
      rw [hq] at h
      rw [hs _ _ _ hq]
      cases b
      · exact ih _ _ h
      · exact h

theorem checkKey_ok {kt : Nat} {kk : KK} {k : Value} {b : Bool} {n : Nat} {w : World} (hk : kkOf P kt = some kk) : (Instr.checkKey b (n + 1) kt k).run P w = .ok () w := by
  unfold kkOf at hk
  split at hk
  · rename_i q hd; simp [Instr.checkKey, rN_underlying hd]
  · rename_i hd; simp [Instr.checkKey, rN_underlying hd]
  · cases hk

theorem findKey_ok {kt : Nat} {kk : KK} {k : Value} {es : List MapEntry} {r : Option (Nat × Value)} {w : World} (hk : kkOf P kt = some kk) (h : mfind kk k es 0 = some r) : (Instr.findKey kt k es).run P w = .ok r w := by
  obtain ⟨d, hd, hf⟩ := find_ok (k := k) hk
  simp [Instr.findKey, rN_underlying hd, hf es 0 r h]

theorem mlk_ok {t kt : Nat} {i : TyI} {z : Value} {kk : KK} {ok : Bool} {x k v : Value} {w : World} (ht : tyOf P t = some i) (hik : i.k = .map kt z) (hk : kkOf P kt = some kk)
    (h : (Rd.mlk kk z ok x k).ev (hof w) = some v) : (Instr.lookup t x k ok).run P w = .ok v w := by
  obtain ⟨d, hd, hki⟩ := ty_k ht
  rw [hik] at hki
  obtain ⟨e, j, rfl, hj, hz⟩ := hki
  cases x <;> simp only [Rd.ev] at h <;> try cases h
  rename_i r
  cases r <;> simp only [Rd.ev] at h <;> try cases h
  · rename_i r
    split at h
    · rename_i es ck hm
      have hm' : w.heap[r]? = some (.map es ck) := hm
      have hg : (getObj r).run P w = .ok (.map es ck) w := by simp [getObj, Sem.run, hm']
      cases hf : mfind kk k es.toList 0 with
      | none => rw [hf] at h; cases h
      | some q =>
        rw [hf] at h
        have hck : (Instr.checkKey es.isEmpty 10000 kt k).run P w = .ok () w := checkKey_ok (n := 9999) hk
        simp only [Instr.lookup, Sem.run_bind, rN_underlying hd, Result.andThen_ok, hg, Sem.run_pure, hck, findKey_ok hk hf]
        cases q with
        | none => simp only at h; cases h; simp [rN_zero hj hz]
        | some p => obtain ⟨a, b⟩ := p; simp only at h; cases h; simp
    · cases h

theorem mup_ok {t kt : Nat} {i : TyI} {z : Value} {kk : KK} {m k x v : Value} {w w' : World} (ht : tyOf P t = some i) (hik : i.k = .map kt z) (hk : kkOf P kt = some kk)
    (h : (Hv.mup kk m k x).run w = some (v, w')) : v = .tuple #[] ∧ (Instr.mapUpdate t m k x).run P w = .ok () w' := by
  obtain ⟨d, hd, hki⟩ := ty_k ht
  rw [hik] at hki
  obtain ⟨e, j, rfl, hj, hz⟩ := hki
  cases m <;> simp only [Hv.run] at h <;> try cases h
  rename_i r
  cases r <;> simp only [Hv.run] at h <;> try cases h
  · rename_i r
    split at h
    · rename_i es ck hm
      have hg : (getObj r).run P w = .ok (.map es ck) w := by simp [getObj, Sem.run, hm]
      split at h
      · rename_i hf
        cases h
        have hck : (Instr.checkKey false 10000 kt k).run P w = .ok () w := checkKey_ok (n := 9999) hk
        refine ⟨rfl, ?_⟩
        simp only [Instr.mapUpdate, Sem.run_bind, rN_underlying hd, Result.andThen_ok, hg, hck, findKey_ok hk hf]
        simp [setObj, Sem.run, hm, wset]
      · cases h
    · cases h

theorem mln_ok {t ty : Nat} {i : TyI} {kt : Nat} {z : Value} {x v : Value} {w : World} (ht : tyOf P t = some i) (hik : i.k = .map kt z) (h : (Rd.mln x).ev (hof w) = some v) {ats : Array TypeId} (ha : ats[0]? = some t) :
    (Builtin.len_ ats ty #[x]).run P w = .ok v w := by
  obtain ⟨d, hd, hki⟩ := ty_k ht
  rw [hik] at hki
  obtain ⟨e, j, rfl, hj, hz⟩ := hki
  simp only [Rd.ev] at h
  split at h
  any_goals (rename_i heq; cases heq)
  · cases h
    simp [Builtin.len_, ha, rN_underlying hd, goInt]
  · rename_i r
    split at h
    · rename_i es ck hm
      cases h
      have hg : (getObj r).run P w = .ok (.map es ck) w := by
        have hm' : w.heap[r]? = some (.map es ck) := hm
        simp [getObj, Sem.run, hm']
      simp [Builtin.len_, ha, rN_underlying hd, goInt, hg]
    · cases h
  all_goals (cases h)

/-! ### memory that is made -/
theorem nw_ok {e : Nat} {i : TyI} {o : Obj} {f : Nat → Value} (ht : tyOf P e = some i) (hz : i.zero ≠ .tuple #[]) (h : (Al.nw e i.zero.cells.toList).ev = some (o, f)) (w : World) :
    (Instr.alloc e true (.tuple #[])).run P w = .ok (f w.heap.size) { w with heap := w.heap.push o } := by
  obtain ⟨j, d0, hj, hd0, _, _, _, hzz⟩ := ty_inv ht
  have hz' : j.zero = some i.zero := by
    cases hjz : j.zero with
    | none => rw [hjz] at hzz; exact absurd hzz hz
    | some z => rw [hjz] at hzz; simp at hzz; rw [hzz]
  simp only [Al.ev] at h
  cases h
  simp [Instr.alloc, rN_zero hj hz', newVar, newRow, ptrB]

theorem bx_ok {e : Nat} {x : Value} {o : Obj} {f : Nat → Value} (h : (Al.bx e x).ev = some (o, f)) (w : World) : (Instr.box e x).run P w = .ok (f w.heap.size) { w with heap := w.heap.push o } := by
  simp only [Al.ev] at h
  cases h
  simp [Instr.box, newVar, newRow, ptrB]

theorem mks_ok {t : Nat} {i : TyI} {e es eb : Nat} {by_ : Bool} {ez : List Value} {l c : Value} {o : Obj} {f : Nat → Value} (ht : tyOf P t = some i) (hk : i.k = .slc e es eb by_ ez)
    (h : (Al.mks e es eb ez l c).ev = some (o, f)) (w : World) : (Instr.makeSlice t l c).run P w = .ok (f w.heap.size) { w with heap := w.heap.push o } := by
  obtain ⟨hu, j, hj, rfl, rfl, hz, _⟩ := zero_cells ht hk
  simp only [Al.ev] at h
  split at h
  any_goals (rename_i heq; cases heq)
  · rename_i l c
    split at h
    · rename_i hc0
      obtain ⟨h1, h2, h3, h4, h5, h6⟩ := hc0
      cases h
      obtain ⟨z, hz1, hz2⟩ := hz h5 h6
      have wl : IntKind.i64.wrap l = l := by simp [IntKind.wrap, IntKind.bits, IntKind.signed]; omega
      have wc : IntKind.i64.wrap c = c := by simp [IntKind.wrap, IntKind.bits, IntKind.signed]; omega
      have t1 : (decide (c < 0) || decide ((j.bytes : Int) * c > 2 ^ 48)) = false := by simp; omega
      simp only [Instr.makeSlice, Sem.run_bind, rN_underlying hu, Result.andThen_ok, asInt, asIntOf, Sem.run_pure, rN_typeInfo hj, wl, wc, t1]
      have t2 : (false || decide (l < 0) || decide (l > c)) = false := by simp; omega
      simp only [t2, Bool.false_eq_true, if_false, Result.andThen_ok, run_askRoom, rN_sizeOf hj, Sem.run_bind]
      by_cases hn : c.toNat * j.size = 0
      · have hc : c.toNat = 0 := by
          rcases Nat.mul_eq_zero.1 hn with h | h
          · exact h
          · omega
        simp [hn, newRow, hc, repL]
        congr 2
        apply Array.ext'
        simp
      · simp only [hn, if_false, rN_zero hj hz1, Sem.run_bind, Sem.run_pure, Result.andThen_ok, newRow, run_newObj]
        have hzs : z.cells.size = j.size := by rw [← h5, ← hz2]; simp
        have := repL_eq z.cells c.toNat
        rw [hz2, hzs] at this
        simp only [hzs]
        rw [this]
    · cases h
  all_goals (cases h)

theorem bsl_ok {t : Nat} {i : TyI} {e es eb n : Nat} {by_ : Bool} {ez : List Value} {ps : List (Nat × Operand)} {ev : Operand → Value} {o : Obj} {f : Nat → Value} (ht : tyOf P t = some i) (hk : i.k = .slc e es eb by_ ez)
    (h : (Al.bsl e es n ez (ps.map fun (j, x) => (j * es, es, ev x))).ev = some (o, f)) (w : World) :
    (Instr.buildSlice t n ⟨ps.map fun (i, x) => (i, ev x)⟩).run P w = .ok (f w.heap.size) { w with heap := w.heap.push o } := by
  obtain ⟨hu, j, hj, rfl, rfl, hz, _⟩ := zero_cells ht hk
  simp only [Al.ev] at h
  split at h
  · rename_i hc0
    obtain ⟨h1, h2, h3⟩ := hc0
    obtain ⟨z, hz1, hz2⟩ := hz h2 h3
    simp only [Option.map_eq_some_iff] at h
    obtain ⟨l, hl, e⟩ := h
    cases e
    have hzs : z.cells.size = j.size := by rw [← h2, ← hz2]; simp
    have hrep := repL_eq z.cells n
    rw [hzs, hz2] at hrep
    have hfill := fill_eq (fun i => some (i * j.size, j.size)) (ps.map fun (i, x) => (i, ev x)) _ _ (by simp [List.map_map, Function.comp_def]) l hl
    simp only [Instr.buildSlice, Sem.run_bind, rN_underlying hu, Result.andThen_ok, rN_sizeOf hj, Sem.run_ite]
    rw [if_neg (by omega)]
    by_cases hn : n * j.size = 0
    · have hc : n = 0 := by
        rcases Nat.mul_eq_zero.1 hn with h | h
        · exact h
        · omega
      subst hc
      have he : ((Array.range (0 * j.size)).map ((#[] : Array Value)[· % (#[] : Array Value).size]!)) = ⟨repL ez 0⟩ := by simp [repL]
      simp only [if_pos hn, Sem.run_pure, Result.andThen_ok]
      rw [he, hfill]
      simp [newRow]
    · simp only [hn, if_false, rN_zero hj hz1, Sem.run_bind, Sem.run_pure, Result.andThen_ok]
      rw [hzs, hrep, hfill]
      simp [newRow]
  · cases h

theorem args1 {args : Array Operand} {ev : Operand → Value} {x : Value} (h : args.toList.map ev = [x]) : args.map ev = #[x] := by apply Array.ext'; simpa using h
theorem args2 {args : Array Operand} {ev : Operand → Value} {x y : Value} (h : args.toList.map ev = [x, y]) : args.map ev = #[x, y] := by apply Array.ext'; simpa using h

theorem len_ok {t ty : Nat} {i : TyI} {e es eb : Nat} {by_ : Bool} {ez : List Value} {x v : Value} (ht : tyOf P t = some i) (hk : i.k = .slc e es eb by_ ez) (h : (Pu.len x).ev = some v) {ats : Array TypeId} (ha : ats[0]? = some t) (w : World) :
    (Builtin.len_ ats ty #[x]).run P w = .ok v w := by
  obtain ⟨hu, _⟩ := zero_cells ht hk
  cases x <;> simp only [Pu.ev] at h <;> try cases h
  simp [Builtin.len_, ha, rN_underlying hu, goInt]

theorem sln_ok {t ty : Nat} {i : TyI} {x v : Value} (ht : tyOf P t = some i) (hk : i.k = .str) (h : (Pu.sln x).ev = some v) {ats : Array TypeId} (ha : ats[0]? = some t) (w : World) :
    (Builtin.len_ ats ty #[x]).run P w = .ok v w := by
  obtain ⟨d, hd, hki⟩ := ty_k ht
  rw [hk] at hki; simp only at hki; subst hki
  cases x <;> simp only [Pu.ev] at h <;> try cases h
  simp [Builtin.len_, ha, rN_underlying hd, goInt]

theorem cap_ok {t ty : Nat} {i : TyI} {e es eb : Nat} {by_ : Bool} {ez : List Value} {x v : Value} (ht : tyOf P t = some i) (hk : i.k = .slc e es eb by_ ez) (h : (Pu.cap x).ev = some v) {ats : Array TypeId} (ha : ats[0]? = some t) (w : World) :
    (Builtin.cap_ ats ty #[x]).run P w = .ok v w := by
  obtain ⟨hu, _⟩ := zero_cells ht hk
  cases x <;> simp only [Pu.ev] at h <;> try cases h
  simp [Builtin.cap_, ha, rN_underlying hu, goInt]

theorem min_ok {ats : Array TypeId} {ty : Nat} {x y v : Value} (h : (Pu.mn x y).ev = some v) (w : World) : (Builtin.min_ ats ty #[x, y]).run P w = .ok v w := by
  cases x <;> simp only [Pu.ev] at h <;> try cases h
  cases y <;> simp only [Pu.ev] at h <;> try cases h
  simp [Builtin.min_, Builtin.min2]

theorem mnz_ok {f e : Nat} {x v : Value} {w w' : World} (hm : mzOf P f = some e) (h : (Hv.mnz e x).run w = some (v, w')) : (callFunc f (#[] ++ #[x] ++ #[])).run P w = .ok (.value v) w' := by
  unfold mzOf at hm
  split at hm
  · rename_i fn hf
    split at hm
    · rename_i hc
      obtain ⟨hn, hb, hx⟩ := hc
      split at hm
      · rename_i t ht
        split at hm
        · rename_i e' hu
          cases hm
          cases x <;> simp only [Hv.run] at h <;> try cases h
          rename_i k n
          cases k <;> simp only [Hv.run] at h <;> try cases h
          split at h
          · rename_i hc
            cases h
            have hfind : Extern.find fn = some (Extern.BytealgMakeNoZero.makeNoZero fn.params fn.resultTypes) := by
              unfold Extern.find
              have h1 : Extern.allGenericRows.lookup fn.name = none := by rw [hn]; decide +kernel
              have h2 : (Extern.allTypedRows.lookup fn.name) = some Extern.BytealgMakeNoZero.makeNoZero := by rw [hn]; rfl
              simp only [h1, h2]
              rfl
            have hx' : Extern.findNext fn = none := by simpa using hx
            have hname : (fn.name == "runtime.NumGoroutine") = false := by rw [hn]; decide
            have hr : (Extern.BytealgMakeNoZero.makeNoZero fn.params fn.resultTypes #[.int .i64 n]).run P w = .ok (.slice (some ⟨w.heap.size, 0, none⟩) n.toNat (Question.cut (.appendCap n.toNat 0 e) (w.tape w.drawn (.appendCap n.toNat 0 e))))
                { w with heap := w.heap.push (.cells (Extern.BytealgMakeNoZero.digits (Question.cut (.appendCap n.toNat 0 e) (w.tape w.drawn (.appendCap n.toNat 0 e))) (Question.cut (.extern "internal/bytealg.MakeNoZero.bytes" 0) (w.tape (w.drawn + 1) (.extern "internal/bytealg.MakeNoZero.bytes" 0))) #[]) e), drawn := w.drawn + 1 + 1 } := by
              have hdef : Extern.BytealgMakeNoZero.makeNoZero fn.params fn.resultTypes #[.int .i64 n] =
                  (do
                    let some t := fn.resultTypes[0]? | stuck "bytealg.MakeNoZero: no result type"
                    let .slice elem ← underlying t | stuck "bytealg.MakeNoZero: slice type expected"
                    if n < 0 || n > 2 ^ 48 then runtimePanic (.error "makeslice: len out of range")
                    let cap ← choose (.appendCap n.toNat 0 elem)
                    askRoom cap
                    let bytes ← choose (.extern "internal/bytealg.MakeNoZero.bytes" 0)
                    let a ← newRow elem (Extern.BytealgMakeNoZero.digits cap bytes #[])
                    pure (.slice (some a) n.toNat cap)) := rfl
              have h1 : ¬ n < 0 := by omega
              have h2 : ¬ (281474976710656 : Int) < n := by omega
              rw [hdef]
              simp [ht, rN_underlying hu, h1, h2, Question.forced, newRow]
              rfl
            simp only [callFunc, Sem.run_bind, run_program, Result.andThen_ok, hf, hname, Bool.false_eq_true, if_false, hb, if_true, run_mark, hx', hfind]
            simp only [List.append_toArray, List.nil_append, List.append_nil, hr, Result.andThen_ok, Sem.run_pure]
          · cases h
        · cases hm
      · cases hm
    · cases hm
  · cases hm

theorem trCall_ok {ty : Nat → Option TyI} {mz : Nat → Option Nat} {hb : Nat → Bool} (hty : ∀ t i, ty t = some i → tyOf P t = some i) (hhb : ∀ f, hb f = true → hbOf P f = true)
    {ev : Operand → Value} (hev : ∀ f, ev (.func f) = .func (.func f) #[] #[]) {c : Call} {type : Nat} {nd : Nd} (hmz : ∀ f e, mz f = some e → mzOf P f = some e) (h : trCall ty mz hb ev c = some nd) : nd.ok P hb (do let d ← resolve ev c type; invoke d.target d.args) := by
  obtain ⟨callee, args, ats⟩ := c
  cases callee with
  | value f =>
    cases f with
    | func f =>
      simp only [trCall] at h
      split at h
      · rename_i hf
        cases h
        intro w
        simp only [resolve, hev, Deferred.ofValue, Sem.run_bind, Sem.run_pure, Result.andThen_ok, invoke]
        rw [call_ok (hhb f hf)]
        congr 3
        apply Array.ext'
        simp
      · split at h
        · rename_i e x hm hax
          cases h
          have hargs := args1 hax
          intro w v w' hv
          left
          simp only [resolve, hev, hargs, Deferred.ofValue, Sem.run_bind, Sem.run_pure, Result.andThen_ok, invoke]
          exact mnz_ok (hmz _ _ hm) hv
        · cases h
    | tmp t =>
      simp only [trCall] at h
      cases h
      intro f fs cap hg hf w
      simp only [resolve, hg, Deferred.ofValue, Sem.run_bind, Sem.run_pure, Result.andThen_ok, invoke]
      rw [call_ok (hhb f hf)]
      congr 3
      apply Array.ext'
      simp
    | const v => simp only [trCall] at h; cases h
    | global g => simp only [trCall] at h; cases h
  | invoke r m =>
    simp only [trCall] at h
    cases h
    intro t v f hr hp hm hf w
    have harr : (#[Value.iface t v] ++ args.map ev)[0]? = some (.iface t v) := by rw [Array.getElem?_append_left (by simp)]; rfl
    have hext : (#[Value.iface t v] ++ args.map ev).extract 1 (#[Value.iface t v] ++ args.map ev).size = args.map ev := by
      apply Array.ext'
      rw [Array.toList_extract, List.extract_eq_take_drop]
      simp only [Array.toList_append, List.cons_append, List.nil_append, List.drop_succ_cons, List.drop_zero, Array.size_append]
      rw [List.take_of_length_le (by simp)]
    simp only [resolve, hr, Sem.run_bind, Sem.run_pure, Result.andThen_ok, invoke, harr, hext, callMethod, run_program, hm v w hp]
    rw [call_ok (hhb f hf)]
    congr 3
    apply Array.ext'
    simp
  | builtin b =>
    have lft : ∀ {s : Sem Value} {v : Value} {w w' : World}, s.run P w = .ok v w' → ((s.run P w).andThen fun a w' => .ok (Next.value a) w') = .ok (.value v) w' := fun h => by rw [h]; rfl
    cases b <;> simp only [trCall] at h <;> try cases h
    case len =>
      split at h
      · rename_i i x hti hax
        have hargs := args1 hax
        simp only [Option.bind_eq_some_iff] at hti
        obtain ⟨t, ht0, hti⟩ := hti
        have hti := hty _ _ hti
        cases hk : i.k <;> rw [hk] at h <;> simp only at h <;> try cases h
        · intro v hv w
          simp only [resolve, hargs, Sem.run_bind, Sem.run_pure, Result.andThen_ok, invoke, builtin]
          exact lft (sln_ok hti hk hv ht0 w)
        · intro v hv w
          simp only [resolve, hargs, Sem.run_bind, Sem.run_pure, Result.andThen_ok, invoke, builtin]
          exact lft (len_ok hti hk hv ht0 w)
        · intro v w hv
          simp only [resolve, hargs, Sem.run_bind, Sem.run_pure, Result.andThen_ok, invoke, builtin]
          exact lft (mln_ok hti hk hv ht0)
      · cases h
    case cap =>
      split at h
      · rename_i i x hti hax
        have hargs := args1 hax
        simp only [Option.bind_eq_some_iff] at hti
        obtain ⟨t, ht0, hti⟩ := hti
        have hti := hty _ _ hti
        cases hk : i.k <;> rw [hk] at h <;> simp only at h <;> try cases h
        intro v hv w
        simp only [resolve, hargs, Sem.run_bind, Sem.run_pure, Result.andThen_ok, invoke, builtin]
        exact lft (cap_ok hti hk hv ht0 w)
      · cases h
    case min =>
      split at h
      · rename_i x y hax
        have hargs := args2 hax
        cases h
        intro v hv w
        simp only [resolve, hargs, Sem.run_bind, Sem.run_pure, Result.andThen_ok, invoke, builtin]
        exact lft (min_ok hv w)
      · cases h
    case append =>
      split at h
      · rename_i i i2 s x hti hti2 hax
        have hargs := args2 hax
        simp only [Option.bind_eq_some_iff] at hti hti2
        obtain ⟨t, ht0, hti⟩ := hti
        obtain ⟨t2, ht1, hti2⟩ := hti2
        have hti := hty _ _ hti
        have hti2 := hty _ _ hti2
        cases hk : i.k <;> cases hk2 : i2.k <;> rw [hk, hk2] at h <;> first | (cases h; done) | skip
        · rename_i q
          cases q <;> first | (cases h; done) | skip
          cases h
          intro w v w' hv
          left
          simp only [resolve, hargs, Sem.run_bind, Sem.run_pure, Result.andThen_ok, invoke, builtin]
          exact lft (apz_ok hti hk hti2 hk2 hv ht0 ht1)
        · cases h
          intro w v w' hv
          left
          simp only [resolve, hargs, Sem.run_bind, Sem.run_pure, Result.andThen_ok, invoke, builtin]
          exact lft (app_ok hti hk hti2 hk2 hv ht0 ht1)
      · cases h
    case copy =>
      split at h
      · rename_i i s x hti hax
        have hargs := args2 hax
        simp only [Option.bind_eq_some_iff] at hti
        obtain ⟨t, ht0, hti⟩ := hti
        have hti := hty _ _ hti
        cases hk : i.k <;> rw [hk] at h <;> simp only at h <;> try cases h
        intro w v w' hv
        left
        simp only [resolve, hargs, Sem.run_bind, Sem.run_pure, Result.andThen_ok, invoke, builtin]
        exact lft (cpy_ok hti hk hv ht0)
      · cases h
    case clear =>
      split at h
      · rename_i i s hti hax
        have hargs := args1 hax
        simp only [Option.bind_eq_some_iff] at hti
        obtain ⟨t, ht0, hti⟩ := hti
        have hti := hty _ _ hti
        cases hk : i.k <;> rw [hk] at h <;> simp only at h <;> try cases h
        intro w v w' hv
        left
        simp only [resolve, hargs, Sem.run_bind, Sem.run_pure, Result.andThen_ok, invoke, builtin]
        exact lft (clr_ok hti hk hv ht0)
      · cases h

theorem trOp_ok {ty : Nat → Option TyI} {kk : Nat → Option KK} {mz : Nat → Option Nat} {hb : Nat → Bool} (hty : ∀ t i, ty t = some i → tyOf P t = some i) (hkk : ∀ t q, kk t = some q → kkOf P t = some q) (hmz : ∀ f e, mz f = some e → mzOf P f = some e) (hhb : ∀ f, hb f = true → hbOf P f = true)
    {ev : Operand → Value} (hev : ∀ f, ev (.func f) = .func (.func f) #[] #[]) {o : Oper} {nd : Nd} (h : trOp ty kk mz hb ev o.op = some nd) : nd.ok P hb (execOp ev o) := by
  obtain ⟨dst, op, type, pos, after, guard⟩ := o
  have lft : ∀ {s : Sem Value} {v : Value} {w w' : World}, s.run P w = .ok v w' → (do pure (.value (← s)) : Sem Next).run P w = .ok (.value v) w' := fun h => lftV h
  cases op <;> simp only [trOp] at h <;> try cases h
  case move => intro w; rfl
  case assign => intro w; rfl
  case alloc e =>
    simp only [Option.bind_eq_some_iff] at h
    obtain ⟨i, hi, h⟩ := h
    split at h
    · rename_i hz
      cases h
      intro o f hv w
      exact lft (nw_ok (hty _ _ hi) (by intro e; rw [e] at hz; cases hz) hv w)
    · cases h
  case box => intro o f hv w; exact lft (bx_ok hv w)
  case load t a =>
    simp only [Option.map_eq_some_iff] at h
    obtain ⟨i, hi, rfl⟩ := h
    intro v w hv
    exact lft (rN_loadVar (hty _ _ hi) hv)
  case store t a x =>
    simp only [Option.map_eq_some_iff] at h
    obtain ⟨i, hi, rfl⟩ := h
    intro w v w' hv
    have := rN_store (P := P) (hty _ _ hi) hv
    exact .inr ⟨this.1, liftU this.2⟩
  case nilCheck x =>
    intro v hv w
    simp only [execOp]
    generalize ev x = y at hv
    cases y <;> simp only [Pu.ev] at hv <;> try cases hv
    · rename_i a
      cases a <;> simp only [Pu.ev] at hv <;> cases hv
      rfl
    · rename_i fn a b
      cases fn <;> simp only [Pu.ev] at hv <;> cases hv
      rfl
    · rfl
  case binOp b t x y u =>
    simp only [Option.bind_eq_some_iff] at h
    obtain ⟨i, hi, h⟩ := h
    exact trBin_ok (hty _ _ hi) h
  case unOp u t x =>
    intro v hv w
    simp only [execOp]
    generalize ev x = y at hv
    cases u <;> cases y <;> simp only [Pu.ev] at hv <;> cases hv
    rfl
  case convert s d x =>
    split at h
    · rename_i k' k h1 h2
      simp only [Option.map_eq_some_iff] at h1 h2
      obtain ⟨i1, e1, f1⟩ := h1
      obtain ⟨i2, e2, f2⟩ := h2
      cases h
      obtain ⟨d1, hd1, g1⟩ := ty_k (hty _ _ e1)
      obtain ⟨d2, hd2, g2⟩ := ty_k (hty _ _ e2)
      rw [f1] at g1; rw [f2] at g2
      simp only at g1 g2
      subst g1; subst g2
      exact fun v hv w => lft (cvi_ok hd1 hd2 hv)
    · rename_i e es eb ez h1 h2
      simp only [Option.map_eq_some_iff] at h1 h2
      obtain ⟨i1, e1, f1⟩ := h1
      obtain ⟨i2, e2, f2⟩ := h2
      cases h
      obtain ⟨hu, _, _, _, _, _, hb⟩ := zero_cells (hty _ _ e1) f1
      obtain ⟨d2, hd2, g2⟩ := ty_k (hty _ _ e2)
      rw [f2] at g2
      simp only at g2
      subst g2
      exact fun v w hv => lft (conv_s_ok hu (hb rfl) hd2 hv)
    · rename_i e es eb ez h1 h2
      simp only [Option.map_eq_some_iff] at h1 h2
      obtain ⟨i1, e1, f1⟩ := h1
      obtain ⟨i2, e2, f2⟩ := h2
      cases h
      obtain ⟨hu, _, _, _, _, _, hb⟩ := zero_cells (hty _ _ e2) f2
      obtain ⟨d1, hd1, g1⟩ := ty_k (hty _ _ e1)
      rw [f1] at g1
      simp only at g1
      subst g1
      exact fun w v w' hv => .inl (lft (s2b_ok hd1 hu (hb rfl) hv))
    · cases h
  case makeInterface t x =>
    have key : ∀ (i : TyI), ty t = some i → (∀ m d, P.underlying t = some d → d ≠ .interface m) → ∀ v, (Pu.mki t (ev x)).ev = some v → ∀ w, (execOp ev ⟨dst, .makeInterface t x, type, pos, after, guard⟩).run P w = .ok (.value v) w := by
      intro i hi hd v hv w
      obtain ⟨d, hd2, _⟩ := ty_k (hty _ _ hi)
      simp only [Pu.ev] at hv
      cases hv
      have := hd
      simp only [execOp]
      refine lft ?_
      simp only [Instr.makeInterface, Sem.run_bind, rN_underlying hd2, Result.andThen_ok]
      cases d <;> first | rfl | (exact absurd rfl (hd _ _ hd2))
    split at h
    · rename_i k h1
      simp only [Option.map_eq_some_iff] at h1
      obtain ⟨i, e1, f1⟩ := h1
      cases h
      obtain ⟨d, hd, g⟩ := ty_k (hty _ _ e1)
      rw [f1] at g; simp only at g; subst g
      exact key i e1 (by intro m d h; rw [hd] at h; cases h; simp)
    · rename_i h1
      simp only [Option.map_eq_some_iff] at h1
      obtain ⟨i, e1, f1⟩ := h1
      cases h
      obtain ⟨d, hd, g⟩ := ty_k (hty _ _ e1)
      rw [f1] at g; simp only at g; obtain ⟨e, rfl⟩ := g
      exact key i e1 (by intro m d h; rw [hd] at h; cases h; simp)
    · rename_i h1
      simp only [Option.map_eq_some_iff] at h1
      obtain ⟨i, e1, f1⟩ := h1
      cases h
      obtain ⟨d, hd, g⟩ := ty_k (hty _ _ e1)
      rw [f1] at g; simp only at g; subst g
      exact key i e1 (by intro m d h; rw [hd] at h; cases h; simp)
    · cases h
  case makeFunc fn first captured =>
    intro w
    simp [execOp, Instr.makeFunc]
    constructor <;> (apply Array.ext'; simp)
  case makeMap t r =>
    cases r with
    | none =>
      simp only at h
      cases h
      intro o f hv w
      simp only [Al.ev] at hv
      cases hv
      simp [execOp, Instr.makeMap]
    | some r => simp only at h; cases h
  case makeSlice t l c =>
    split at h
    · rename_i e es eb b ez h1
      simp only [Option.map_eq_some_iff] at h1
      obtain ⟨i, e1, f1⟩ := h1
      cases h
      exact fun o f hv w => lft (mks_ok (hty _ _ e1) f1 hv w)
    · cases h
  case slice t x lo hi mx =>
    split at h
    · rename_i e es eb b ez h1
      simp only [Option.map_eq_some_iff] at h1
      obtain ⟨i, e1, f1⟩ := h1
      cases h
      obtain ⟨hu, j, hj, hs, _⟩ := zero_cells (hty _ _ e1) f1
      exact fun v hv w => lft (slc_ok hu hj hs hv)
    · cases h
  case fieldAddr s x f =>
    split at h
    · rename_i fs h1
      simp only [Option.map_eq_some_iff] at h1
      obtain ⟨i, e1, f1⟩ := h1
      obtain ⟨d, hd, g⟩ := ty_k (hty _ _ e1)
      rw [f1] at g
      obtain ⟨gs, rfl, rfl⟩ := g
      split at h
      · rename_i off n ag hf
        split at h
        · cases h
        · rename_i hn
          cases h
          exact fun v hv w => lft (fad_ok hd hf hn hv)
      · cases h
    · cases h
  case field s x f =>
    split at h
    · rename_i fs h1
      simp only [Option.map_eq_some_iff] at h1
      obtain ⟨i, e1, f1⟩ := h1
      obtain ⟨d, hd, g⟩ := ty_k (hty _ _ e1)
      rw [f1] at g
      obtain ⟨gs, rfl, rfl⟩ := g
      split at h
      · rename_i off n ag hf
        split at h
        · cases h
        · rename_i hn
          cases h
          exact fun v hv w => lft (fld_ok hd hf hn hv)
      · cases h
    · cases h
  case indexAddr t x i =>
    split at h
    · rename_i e es eb b ez h1
      simp only [Option.map_eq_some_iff] at h1
      obtain ⟨i1, e1, f1⟩ := h1
      cases h
      obtain ⟨hu, j, hj, hs, _⟩ := zero_cells (hty _ _ e1) f1
      exact fun v hv w => lft (iad_ok hu hj hs hv)
    · rename_i n e es h1
      simp only [Option.map_eq_some_iff] at h1
      obtain ⟨i1, e1, f1⟩ := h1
      cases h
      obtain ⟨d, hd, g⟩ := ty_k (hty _ _ e1)
      rw [f1] at g
      obtain ⟨rfl, j, hj, hs⟩ := g
      exact fun v hv w => lft (aad_ok hd hj hs hv)
    · cases h
  case lookup t x k ok =>
    split at h
    · rename_i kt z h1
      simp only [Option.map_eq_some_iff] at h1 h
      obtain ⟨i1, e1, f1⟩ := h1
      obtain ⟨q, hq, rfl⟩ := h
      exact fun v w hv => lft (mlk_ok (hty _ _ e1) f1 (hkk _ _ hq) hv)
    · cases h
  case mapUpdate t m k x =>
    split at h
    · rename_i kt z h1
      simp only [Option.map_eq_some_iff] at h1 h
      obtain ⟨i1, e1, f1⟩ := h1
      obtain ⟨q, hq, rfl⟩ := h
      intro w v w' hv
      have := mup_ok (P := P) (hty _ _ e1) f1 (hkk _ _ hq) hv
      exact .inr ⟨this.1, liftU this.2⟩
    · cases h
  case insert t m k x =>
    split at h
    · rename_i kt z h1
      simp only [Option.map_eq_some_iff] at h1 h
      obtain ⟨i1, e1, f1⟩ := h1
      obtain ⟨q, hq, rfl⟩ := h
      intro w v w' hv
      have := mup_ok (P := P) (hty _ _ e1) f1 (hkk _ _ hq) hv
      exact .inr ⟨this.1, liftU this.2⟩
    · cases h
  case typeAssert x xt t ok =>
    cases ok with
    | false => simp only at h; cases h
    | true =>
      simp only at h
      split at h
      · rename_i i hi
        split at h
        · rename_i k kz z hk hz
          cases h
          exact fun v hv w => lft (tas_ok (hty _ _ hi) hk (by rw [hz]; simp) hv)
        · cases h
      · cases h
  case extract t i =>
    intro v hv w
    simp only [execOp, Instr.extract]
    generalize ev t = y at hv
    cases y <;> simp only [Pu.ev] at hv <;> try cases hv
    rename_i vs
    have : vs[i]? = some v := by simpa using hv
    simp [this]
  case build t ps =>
    split at h
    · rename_i i hi
      obtain ⟨j, d0, hj, hd0, _, _, _, hzz⟩ := ty_inv (hty _ _ hi)
      obtain ⟨d, hd, g⟩ := ty_k (hty _ _ hi)
      have zk : zOk i.zero = true → j.zero = some i.zero := by
        intro hz
        cases hjz : j.zero with
        | none => rw [hjz] at hzz; simp at hzz; rw [hzz] at hz; cases hz
        | some z => rw [hjz] at hzz; simp at hzz; rw [hzz]
      cases hk : i.k <;> rw [hk] at h g <;> simp only at h g <;> try cases h
      case arr n e es =>
        obtain ⟨rfl, je, hje, rfl⟩ := g
        split at h
        · rename_i hz
          cases h
          intro v hv w
          simp only [Pu.ev, Option.map_eq_some_iff] at hv
          obtain ⟨l, hl, rfl⟩ := hv
          have hfill := fill_eq (fun i => some (i * je.size, je.size)) (ps.toList.map fun (i, x) => (i, ev x)) _ _ (by simp [List.map_map, Function.comp_def]) l hl
          simp only [execOp]
          refine lft ?_
          simp only [Instr.build, Sem.run_bind, rN_zero hj (zk hz), rN_underlying hd, Result.andThen_ok, rN_sizeOf hje]
          have e2 : (ps.map fun (x : Nat × Operand) => match x with | (i, x) => (i, ev x)).toList = ps.toList.map fun (i, x) => (i, ev x) := by simp
          have e3 : (⟨i.zero.cells.toList⟩ : Array Value) = i.zero.cells := rfl
          rw [e2, ← e3, hfill]
          rfl
        · cases h
      case stc fs =>
        obtain ⟨gs, rfl, rfl⟩ := g
        split at h
        · rename_i hz
          simp only [Bool.and_eq_true] at hz
          simp only [Option.map_eq_some_iff] at h
          obtain ⟨qs, hqs, rfl⟩ := h
          intro v hv w
          simp only [Pu.ev, Option.map_eq_some_iff] at hv
          obtain ⟨l, hl, rfl⟩ := hv
          have hpl := places_eq (P := P) ps.toList qs hqs
          have hfill := fill_eq (fun i => (gs.toList.map fun f => (f.offset, (fldOf P f).2.1))[i]?) (ps.toList.map fun (i, x) => (i, ev x)) qs _ hpl l hl
          have hm : ∀ (l : List Field), (l.map (fldOf P)).all (fun q => q.2.1 != 0) = true →
              (l.mapM (fun (f : Field) => (do pure (f.offset, ← sizeOf f.type) : Sem (Nat × Nat)))).run P w = .ok (l.map fun f => (f.offset, (fldOf P f).2.1)) w := by
            intro l
            induction l with
            | nil => intro _; simp
            | cons f l ih =>
              intro ha
              simp only [List.map_cons, List.all_cons, Bool.and_eq_true, bne_iff_ne, ne_eq] at ha
              obtain ⟨_, jf, df, hjf, _, hs, _⟩ := fld_inv (P := P) (f := f) (off := (fldOf P f).1) (n := (fldOf P f).2.1) (agg := (fldOf P f).2.2) rfl ha.1
              simp only [List.mapM_cons, Sem.run_bind, rN_sizeOf hjf, Result.andThen_ok, Sem.run_pure]
              rw [ih ha.2]
              simp [hs]
          simp only [execOp]
          refine lft ?_
          simp only [Instr.build, Sem.run_bind, rN_zero hj (zk hz.1), rN_underlying hd, Result.andThen_ok, Array.mapM_eq_mapM_toList, Sem.run_map]
          rw [hm gs.toList hz.2]
          simp only [Result.andThen_ok]
          have e2 : (ps.map fun (x : Nat × Operand) => match x with | (i, x) => (i, ev x)).toList = ps.toList.map fun (i, x) => (i, ev x) := by simp
          have e3 : (⟨i.zero.cells.toList⟩ : Array Value) = i.zero.cells := rfl
          have e4 : (fun (i : Nat) => (List.map (fun f => (f.offset, (fldOf P f).2.1)) gs.toList).toArray[i]?) = fun (i : Nat) => (gs.toList.map fun f => (f.offset, (fldOf P f).2.1))[i]? := by
            funext i; simp
          rw [e2, ← e3, e4, hfill]
          rfl
        · cases h
    · cases h
  case buildSlice t n ps =>
    split at h
    · rename_i e es eb b ez h1
      simp only [Option.map_eq_some_iff] at h1
      obtain ⟨i1, e1, f1⟩ := h1
      cases h
      intro o f hv w
      have := bsl_ok (hty _ _ e1) f1 hv w
      refine lft ?_
      rw [← this]
      congr 2
      apply Array.ext'
      simp
    · cases h
  case call c => exact trCall_ok hty hhb hev hmz h

end
end Go.Lb
