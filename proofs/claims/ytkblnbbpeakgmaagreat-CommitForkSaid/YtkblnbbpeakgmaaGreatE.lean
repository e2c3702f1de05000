/- Soundness of the translation of operations, kind by kind. No statement of the seat is proved in this file. -/
import Derived.Test.YtkblnbbpeakgmaaGreatD
set_option linter.all false
namespace Go.Lb
section
variable {P : Program}

theorem ty_k {t : Nat} {i : TyI} (h : tyOf P t = some i) : ∃ d, P.underlying t = some d ∧ (match i.k with
    | .int k => d = .int k | .bool => d = .bool | .str => d = .string | .ptr => ∃ e, d = .pointer e | .fn => ∃ a b c, d = .func a b c | .iface => ∃ m, d = .interface m
    | .slc e es eb byte ez => d = .slice e ∧ ∃ j de, P.info? e = some j ∧ P.underlying e = some de ∧ es = j.size ∧ eb = j.bytes ∧ (byte = true → de = .int .u8) ∧ (∀ z, j.zero = some z → ez = z.cells.toList) ∧ (j.zero = none → ez = [])
    | .arr n e es => d = .array n e ∧ ∃ j, P.info? e = some j ∧ es = j.size
    | .stc fs => ∃ g, d = .struct g ∧ fs = g.toList.map (fldOf P)
    | .map kt z => ∃ v j, d = .map kt v ∧ P.info? v = some j ∧ j.zero = some z
    | .other => True) := by
  unfold tyOf at h
  split at h
  · rename_i j d hj hd
    cases h
    refine ⟨d, hd, ?_⟩
    cases d <;> simp only
    case pointer e => exact ⟨e, rfl⟩
    case func a b c => exact ⟨a, b, c, rfl⟩
    case interface m => exact ⟨m, rfl⟩
    case slice e =>
      cases h1 : P.info? e with
      | none => trivial
      | some je =>
        cases h2 : P.underlying e with
        | none => trivial
        | some de =>
          simp only
          refine ⟨trivial, je, de, h1, h2, rfl, rfl, ?_, ?_, ?_⟩
          · intro hb; split at hb
            · rfl
            · cases hb
          · intro z hz; rw [hz]
          · intro hz; rw [hz]
    case array n e =>
      cases h1 : P.info? e with
      | none => trivial
      | some je => exact ⟨rfl, je, h1, rfl⟩
    case struct fs => exact ⟨fs, rfl, rfl⟩
    case map k v =>
      cases h1 : P.info? v with
      | none => trivial
      | some jv =>
        cases h2 : jv.zero with
        | none => simp only [h2]
        | some z => simp only [h2]; exact ⟨v, jv, rfl, h1, h2⟩
  · cases h

theorem ty_flat {t : Nat} {i : TyI} (h : tyOf P t = some i) {ks : List (Option IntKind)} (hf : i.flat = some ks) : P.eqGuardType P.depth t = false ∧ flatOf P 8 t = some ks := by
  unfold tyOf at h
  split at h
  · rename_i j d hj hd
    cases h
    cases d <;> simp only at hf
    all_goals first
      | (cases hf; done)
      | (split at hf
         · cases hf
         · rename_i hg; exact ⟨by simpa using hg, hf⟩)
  · cases h

/-! ### nil, bools -/
theorem guard_other {op : BinOp} {t : Nat} {xo yo : Operand} {x y : Value} {w : World} (h1 : ∀ a b, ¬ (x = .agg a ∧ y = .agg b)) (h2 : ¬ (x = .nilIface ∧ y = .nilIface)) :
    (eqGuard op t xo yo x y).run P w = .ok () w := by
  unfold eqGuard
  cases x <;> cases y <;> simp_all

theorem eqb_ok {neg : Bool} {t : Nat} {op : BinOp} {xo yo : Operand} {x y v : Value} (hd : P.underlying t = some .bool) (hop : op = if neg then .neq else .eql)
    (h : (Pu.eqb neg x y).ev = some v) (w : World) : (do eqGuard op t xo yo x y; binOp op t x y : Sem Value).run P w = .ok v w := by
  unfold Pu.ev at h
  split at h <;> try cases h
  all_goals (rename_i heq; cases heq)
  simp only [Sem.run_bind, guard_other (P := P) (op := op) (t := t) (xo := xo) (yo := yo) (w := w) (x := .bool _) (y := .bool _) (by simp) (by simp), Result.andThen_ok]
  subst hop
  cases neg
  · simp [binOp, Op.equal, Op.maxDepth, run_equalIn_bool' w _ t _ _ hd]
  · simp [binOp, Op.equal, Op.maxDepth, run_equalIn_bool' w _ t _ _ hd]

def NK.fits : NK → TypeDesc → Prop
  | .ptr, .pointer _ => True
  | .slc, .slice _ => True
  | .map, .map .. => True
  | .fn, .func .. => True
  | _, _ => False

theorem nilEq_run {k : NK} {t : Nat} {x y : Value} {b : Bool} {d : TypeDesc} (hd : P.underlying t = some d) (hk : k.fits d) (h : nilEq k x y = some b) (w : World) :
    (Op.equal t x y).run P w = .ok b w := by
  show (Op.equalIn (9999 + 1) t x y).run P w = _
  generalize (9999 : Nat) = n
  unfold nilEq at h
  cases k <;> cases d <;> simp only [NK.fits] at hk <;> (split at h <;> first
    | (cases h; done)
    | (rename_i heq; cases heq; done)
    | (simp at h; subst h; simp [Op.equalIn, rN_underlying hd]; done))

theorem eqn_ok {k : NK} {neg : Bool} {t : Nat} {op : BinOp} {xo yo : Operand} {x y v : Value} {d : TypeDesc} (hd : P.underlying t = some d) (hk : k.fits d) (hop : op = if neg then .neq else .eql)
    (h : (Pu.eqn k neg x y).ev = some v) (w : World) : (do eqGuard op t xo yo x y; binOp op t x y : Sem Value).run P w = .ok v w := by
  simp only [Pu.ev, Option.map_eq_some_iff] at h
  obtain ⟨b, hb, rfl⟩ := h
  have hr := fun w => nilEq_run hd hk hb w
  have hg : (eqGuard op t xo yo x y).run P w = .ok () w := by
    apply guard_other
    · rintro a b ⟨rfl, rfl⟩; cases k <;> cases hb
    · rintro ⟨rfl, rfl⟩; cases k <;> cases hb
  simp only [Sem.run_bind, hg, Result.andThen_ok]
  have hsel : (binOp op t x y) = (if neg then (do pure (.bool (!(← Op.equal t x y)))) else (do pure (.bool (← Op.equal t x y))) : Sem Value) := by
    subst hop
    unfold nilEq at hb
    cases neg <;> (split at hb <;> first | (cases hb; done) | rfl)
  rw [hsel]
  cases neg <;> simp [hr]

/-! ### Cell by cell -/
theorem cellsEq_app : ∀ (k1 k2 : List (Option IntKind)) (xs ys : List Value) (r : Bool), cellsEq (k1 ++ k2) xs ys = some r →
    ∃ r1 r2, cellsEq k1 (xs.take k1.length) (ys.take k1.length) = some r1 ∧ cellsEq k2 (xs.drop k1.length) (ys.drop k1.length) = some r2 ∧ r = (r1 && r2)
  | [], k2, xs, ys, r, h => ⟨true, r, by simp [cellsEq], by simpa using h, by simp⟩
  | k :: k1, k2, x :: xs, y :: ys, r, h => by
    simp only [List.cons_append, cellsEq] at h
    cases h1 : cellEq k x y with
    | none => rw [h1] at h; cases h
    | some a =>
      cases h2 : cellsEq (k1 ++ k2) xs ys with
      | none => rw [h1, h2] at h; cases h
      | some b =>
        rw [h1, h2] at h
        obtain ⟨r1, r2, e1, e2, rfl⟩ := cellsEq_app k1 k2 xs ys b h2
        simp at h
        refine ⟨a && r1, r2, by simp [cellsEq, h1, e1], by simpa using e2, by rw [← h, Bool.and_assoc]⟩
  | k :: k1, k2, [], ys, r, h => by simp [cellsEq] at h
  | k :: k1, k2, x :: xs, [], r, h => by simp [cellsEq] at h

theorem cellsEq_len : ∀ (ks : List (Option IntKind)) (xs ys : List Value) (r : Bool), cellsEq ks xs ys = some r → xs.length = ks.length ∧ ys.length = ks.length
  | [], [], [], _, _ => ⟨rfl, rfl⟩
  | [], x :: xs, _, _, h => by simp [cellsEq] at h
  | [], [], y :: ys, _, h => by simp [cellsEq] at h
  | k :: ks, [], _, _, h => by simp [cellsEq] at h
  | k :: ks, x :: xs, [], _, h => by simp [cellsEq] at h
  | k :: ks, x :: xs, y :: ys, r, h => by
    simp only [cellsEq] at h
    split at h
    · rename_i a b _ h2
      have := cellsEq_len ks xs ys b h2
      simp [this]
    · cases h

/-- the value of some cells -/
def valOf (agg : Bool) (l : List Value) : Value := if agg then .agg ⟨l⟩ else l.headD (.tuple #[])

theorem part_run {t : Nat} {i : TypeInfo} {d : TypeDesc} {cs : List Value} {off : Nat} {w : World} (hi : P.info? t = some i) (hd : P.underlying t = some d) (hl : off + i.size ≤ cs.length)
    (h1 : isAggD d = false → i.size = 1) : (part t ⟨cs⟩ off).run P w = .ok (valOf (isAggD d) ((cs.drop off).take i.size)) w := by
  simp only [part, Sem.run_bind, rN_isAgg hd, Result.andThen_ok, Sem.run_ite]
  by_cases ha : isAggD d = true
  · rw [if_pos ha, rN_sizeOf hi]
    simp only [Result.andThen_ok, Sem.run_pure, valOf, ha, if_true]
    congr 2
    apply Array.ext'
    simp [List.extract_eq_take_drop]
  · rw [if_neg ha]
    have ha' : isAggD d = false := by simpa using ha
    have hs := h1 ha'
    have hlt : off < cs.length := by omega
    simp only [valOf, ha', Bool.false_eq_true, if_false, hs]
    have : (⟨cs⟩ : Array Value)[off]? = some cs[off] := by simp [hlt]
    simp only [this, Sem.run_pure]
    congr 1
    rw [List.take_one, List.head?_drop]
    simp [hlt]

theorem flat_size {n t : Nat} {ks : List (Option IntKind)} {d : TypeDesc} (hf : flatOf P n t = some ks) (hd : P.underlying t = some d) (ha : isAggD d = false) : ks.length = 1 := by
  cases n with
  | zero => simp [flatOf] at hf
  | succ n =>
    simp only [flatOf, hd] at hf
    cases d <;> simp only [isAggD] at ha hf <;> first | (cases hf; done) | (cases hf; rfl) | (cases ha; done)

theorem flat_run : ∀ (n t : Nat) (ks : List (Option IntKind)) (d : TypeDesc) (l m : List Value) (r : Bool) (D : Nat) (w : World), n ≤ D → flatOf P n t = some ks → P.underlying t = some d → cellsEq ks l m = some r →
    (Op.equalIn D t (valOf (isAggD d) l) (valOf (isAggD d) m)).run P w = .ok r w := by
  intro n
  induction n with
  | zero => intro t ks d l m r D w _ h; simp [flatOf] at h
  | succ n ih =>
    intro t ks d l m r D w hD hf hd hc
    obtain ⟨D, rfl⟩ : ∃ E, D = E + 1 := ⟨D - 1, by omega⟩
    simp only [flatOf, hd] at hf
    have hlm := cellsEq_len _ _ _ _ hc
    cases d <;> simp only at hf <;> try (cases hf; done)
    case int k =>
      cases hf
      match l, m, hc, hlm with
      | [x], [y], hc, _ =>
        simp only [cellsEq] at hc
        cases h1 : cellEq (some k) x y with
        | none => rw [h1] at hc; cases hc
        | some a =>
          rw [h1] at hc
          simp at hc; subst hc
          simp only [valOf, isAggD, Bool.false_eq_true, if_false, List.headD]
          cases x <;> cases y <;> simp only [cellEq] at h1 <;> try (cases h1; done)
          split at h1
          · rename_i hk
            obtain ⟨rfl, rfl⟩ := hk
            cases h1
            exact run_equalIn_int w D t _ _ _ _ hd
          · cases h1
    case bool =>
      cases hf
      match l, m, hc, hlm with
      | [x], [y], hc, _ =>
        simp only [cellsEq] at hc
        cases h1 : cellEq none x y with
        | none => rw [h1] at hc; cases hc
        | some a =>
          rw [h1] at hc
          simp at hc; subst hc
          simp only [valOf, isAggD, Bool.false_eq_true, if_false, List.headD]
          cases x <;> cases y <;> simp only [cellEq] at h1 <;> try (cases h1; done)
          cases h1
          exact run_equalIn_bool' w D t _ _ hd
    case array mm e =>
      cases h1 : flatOf P n e with
      | none => rw [h1] at hf; cases hf
      | some ke =>
        cases h2 : P.info? e with
        | none => rw [h1, h2] at hf; cases hf
        | some j =>
          rw [h1, h2] at hf
          simp only at hf
          split at hf
          · rename_i hsz
            obtain ⟨hsz, hpos⟩ := hsz
            cases hf
            cases h3 : P.underlying e with
            | none => cases n <;> simp [flatOf, h3] at h1
            | some de =>
              simp only [valOf, isAggD, if_true]
              rw [run_equalIn_array w D _ _ hd h2]
              have hcs : P.cellsOf e = ke.length := by simp [Program.cellsOf, h2, hsz]
              rw [hcs]
              have hone : isAggD de = false → j.size = 1 := fun ha => by rw [← hsz]; exact flat_size h1 h3 ha
              -- the items from i on
              have key : ∀ (q i : Nat) (r : Bool), i + q = mm → cellsEq (List.replicate q ke).flatten (l.drop (i * ke.length)) (m.drop (i * ke.length)) = some r →
                  (Op.eqItems D e ke.length ⟨l⟩ ⟨m⟩ (List.range' i q)).run P w = .ok r w := by
                intro q
                induction q with
                | zero =>
                  intro i r _ hq
                  have := cellsEq_len _ _ _ _ hq
                  simp at hq
                  cases hl : l.drop (i * ke.length) with
                  | nil => cases hm : m.drop (i * ke.length) with
                    | nil => rw [hl, hm] at hq; simp [cellsEq] at hq; subst hq; simp [Op.eqItems]
                    | cons a b => rw [hm] at this; simp at this
                  | cons a b => rw [hl] at this; simp at this
                | succ q ihq =>
                  intro i r hi hq
                  rw [List.replicate_succ, List.flatten_cons] at hq
                  obtain ⟨r1, r2, e1, e2, rfl⟩ := cellsEq_app _ _ _ _ _ hq
                  have hl1 := (cellsEq_len _ _ _ _ hq)
                  simp at hl1
                  have lenl : i * ke.length + ke.length ≤ l.length := by
                    have := hl1.1
                    generalize i * ke.length = u at *
                    generalize q * ke.length = v at *
                    omega
                  have lenm : i * ke.length + ke.length ≤ m.length := by
                    have := hl1.2
                    generalize i * ke.length = u at *
                    generalize q * ke.length = v at *
                    omega
                  rw [List.range'_succ]
                  simp only [Op.eqItems, Sem.run_bind]
                  rw [part_run h2 h3 (by rw [← hsz]; exact lenl) hone, Result.andThen_ok, part_run h2 h3 (by rw [← hsz]; exact lenm) hone, Result.andThen_ok, ← hsz,
                    ih e ke de _ _ r1 D w (by omega) h1 h3 e1, Result.andThen_ok]
                  cases r1 with
                  | false => simp
                  | true =>
                    simp only [Bool.not_true, Bool.false_eq_true, if_false, Bool.true_and]
                    refine ihq (i + 1) r2 (by omega) ?_
                    rw [List.drop_drop, List.drop_drop] at e2
                    rw [Nat.succ_mul]
                    exact e2
              rw [List.range_eq_range']
              exact key mm 0 r (by omega) (by simpa using hc)
          · cases hf
    case struct fs =>
      split at hf
      · cases hf
      · rename_i hst
        have hst' : P.stoodInHeld t = false := by simpa using hst
        simp only [valOf, isAggD, if_true]
        have hfo : P.fieldsOf t = fs := by simp [Program.fieldsOf, hd]
        rw [run_equalIn_struct w D t _ _ (by rw [hfo]; exact hd) hst', hfo]
        clear hfo hd hst hst'
        generalize fs.toList = gs at hf
        -- fields, with what has been passed
        have fail : ∀ (gs : List Field), gs.foldl (fun acc f => match acc, flatOf P n f.type with
            | some l, some ks => if f.name ≠ "_" ∧ f.offset = l.length ∧ ((P.info? f.type).map (·.size)) = some ks.length ∧ 0 < ks.length then some (l ++ ks) else none
            | _, _ => none) none = none := by
          intro gs
          induction gs with
          | nil => rfl
          | cons f gs ihg => simpa using ihg
        have key : ∀ (gs : List Field) (pre ks : List (Option IntKind)), gs.foldl (fun acc f => match acc, flatOf P n f.type with
            | some l, some ks => if f.name ≠ "_" ∧ f.offset = l.length ∧ ((P.info? f.type).map (·.size)) = some ks.length ∧ 0 < ks.length then some (l ++ ks) else none
            | _, _ => none) (some pre) = some ks → ∃ post, ks = pre ++ post ∧ ∀ r, cellsEq post (l.drop pre.length) (m.drop pre.length) = some r → (Op.eqFields D ⟨l⟩ ⟨m⟩ gs).run P w = .ok r w := by
          intro gs
          induction gs with
          | nil =>
            intro pre ks h
            cases h
            refine ⟨[], by simp, ?_⟩
            intro r hq
            have := cellsEq_len _ _ _ _ hq
            cases hl : l.drop pre.length with
            | nil => cases hm : m.drop pre.length with
              | nil => rw [hl, hm] at hq; simp [cellsEq] at hq; subst hq; simp [Op.eqFields]
              | cons a b => rw [hm] at this; simp at this
            | cons a b => rw [hl] at this; simp at this
          | cons f gs ihg =>
            intro pre ks h
            rw [List.foldl_cons] at h
            cases h1 : flatOf P n f.type with
            | none => simp only [h1] at h; rw [fail] at h; cases h
            | some kf =>
              simp only [h1] at h
              split at h
              · rename_i hc3
                obtain ⟨hn, ho, hs, hpos⟩ := hc3
                simp only [Option.map_eq_some_iff] at hs
                obtain ⟨j, h2, hsz⟩ := hs
                obtain ⟨post, rfl, hpost⟩ := ihg (pre ++ kf) ks h
                refine ⟨kf ++ post, by simp, ?_⟩
                intro r hq
                obtain ⟨r1, r2, e1, e2, rfl⟩ := cellsEq_app _ _ _ _ _ hq
                have e1l := cellsEq_len _ _ _ _ e1
                cases h3 : P.underlying f.type with
                | none => cases n <;> simp [flatOf, h3] at h1
                | some de =>
                  have hone : isAggD de = false → j.size = 1 := fun ha => by rw [hsz]; exact flat_size h1 h3 ha
                  have hl1 : pre.length + kf.length ≤ l.length := by have := e1l.1; simp at this; omega
                  have hm1 : pre.length + kf.length ≤ m.length := by have := e1l.2; simp at this; omega
                  simp only [Op.eqFields, hn, ne_eq, not_false_eq_true, if_true, Sem.run_bind]
                  rw [part_run h2 h3 (by rw [hsz, ho]; exact hl1) hone, Result.andThen_ok, part_run h2 h3 (by rw [hsz, ho]; exact hm1) hone, Result.andThen_ok, ho, hsz,
                    ih f.type kf de _ _ r1 D w (by omega) h1 h3 e1, Result.andThen_ok]
                  cases r1 with
                  | false => simp
                  | true =>
                    simp only [Bool.not_true, Bool.false_eq_true, if_false, Bool.true_and]
                    have hr2 : cellsEq post (l.drop (pre ++ kf).length) (m.drop (pre ++ kf).length) = some r2 := by
                      rw [List.drop_drop, List.drop_drop] at e2
                      simpa using e2
                    exact hpost _ hr2
              · rw [fail] at h; cases h
        obtain ⟨post, rfl, hp⟩ := key gs [] ks hf
        exact hp _ (by simpa using hc)

end
end Go.Lb
