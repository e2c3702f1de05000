/- Soundness of the translation of operations, all kinds. No statement of the seat is proved in this file. -/
import Derived.Test.YtkblnbbpeakgmaaGreatF
import Derived.Laws.BytesArg
set_option linter.all false
namespace Go.Lb
section
variable {P : Program}

theorem liftU {s : Sem Unit} {w w' : World} (h : s.run P w = .ok () w') : (do s; pure Next.skip : Sem Next).run P w = .ok .skip w' := by
  rw [Sem.run_bind, h]; rfl

/-! ### conversions -/
theorem bytesOf_inv : ∀ (l : List Value) (bs : List UInt8), bytesOfV l = some bs → ∃ ns : List Int, l = ns.map (Value.int .u8) ∧ bs = ns.map fun n => UInt8.ofNat n.toNat
  | [], bs, h => by cases h; exact ⟨[], rfl, rfl⟩
  | v :: l, bs, h => by
    unfold bytesOfV at h
    split at h
    · rename_i heq; cases heq
    · rename_i n l' heq
      cases heq
      simp only [Option.map_eq_some_iff] at h
      obtain ⟨bs', h', rfl⟩ := h
      obtain ⟨ns, rfl, rfl⟩ := bytesOf_inv l bs' h'
      exact ⟨n :: ns, rfl, rfl⟩
    · cases h

theorem conv_s_ok {s d : Nat} {e : Nat} {x v : Value} {w : World} (hs : P.underlying s = some (.slice e)) (he : P.underlying e = some (.int .u8)) (hd : P.underlying d = some .string)
    (h : (Rd.b2s x).ev (hof w) = some v) : (convert s d x).run P w = .ok v w := by
  simp only [Rd.ev] at h
  split at h
  any_goals (rename_i heq; cases heq)
  · cases h
    rw [run_convert_bytes_string w s d e _ _ _ hs he hd]
    simp [Conv.bytesToString]
  · rename_i a n c
    cases hr : rdN (hof w) a n with
    | none => rw [hr] at h; cases h
    | some l =>
      rw [hr] at h
      simp only [Option.map_eq_some_iff] at h
      obtain ⟨bs, hb, rfl⟩ := h
      obtain ⟨ns, rfl, rfl⟩ := bytesOf_inv l bs hb
      rw [run_convert_bytes_string w s d e _ _ _ hs he hd, run_bytesToString w a n c ns (by simpa using rN_load hr), foldl_push_bytes]
      congr 2
      simp [ByteArray.empty, ByteArray.emptyWithCapacity]
      rfl
  all_goals (first | (cases h; done) | skip)

theorem cvi_ok {s d : Nat} {k k' : IntKind} {x v : Value} {w : World} (hs : P.underlying s = some (.int k')) (hd : P.underlying d = some (.int k)) (h : (Pu.cvi k x).ev = some v) : (convert s d x).run P w = .ok v w := by
  cases x <;> simp only [Pu.ev] at h <;> try cases h
  simp [convert, rN_underlying hs, rN_underlying hd, Conv.intToInt]

theorem s2b_ok {s d e : Nat} {x v : Value} {w w' : World} (hs : P.underlying s = some .string) (hd : P.underlying d = some (.slice e)) (he : P.underlying e = some (.int .u8))
    (h : (Hv.s2b e x).run w = some (v, w')) : (convert s d x).run P w = .ok v w' := by
  cases x <;> simp only [Hv.run] at h <;> try cases h
  rename_i b
  simp only [convert, Sem.run_bind, rN_underlying hs, rN_underlying hd, rN_underlying he, Result.andThen_ok, Conv.stringToBytes, run_choose, Question.forced, Bool.false_eq_true, if_false, newRow, run_newObj, Sem.run_pure,
    markStringish, run_shape, World.shape?]
  simp only [Array.getElem?_push, if_true]
  simp only [run_freeze, Result.andThen_ok, World.freeze]
  simp only [Nat.one_ne_zero, if_false]
  congr 2
  apply Array.ext
  · simp
  · intro i h1 h2
    simp only [Array.size_modify, Array.size_push] at h1
    rw [Array.getElem_modify]
    split
    · rename_i hi
      subst hi
      simp
      simp only [Question.cut]
      omega
    · rename_i hi
      rw [Array.getElem_push_lt (by omega), Array.getElem_push_lt (by omega)]

/-! ### the rest, without memory -/
theorem sliceBound_ok {x : Value} {y n : Nat} {c : BoundsCode} {i : Int} (hx : intOfV x = some i) (h : 0 ≤ i ∧ i ≤ y) (hn : n = i.toNat) (w : World) : (Instr.sliceBound x y c).run P w = .ok n w := by
  cases x <;> simp [intOfV] at hx
  subst hx; subst hn
  simp [Instr.sliceBound, asIntOf, h.1, h.2]

theorem bnd_inv {v : Value} {y d n : Nat} (h : bndV (some v) y d = some n) : ∃ i, intOfV v = some i ∧ (0 ≤ i ∧ i ≤ y) ∧ n = i.toNat := by
  simp only [bndV] at h
  split at h
  · rename_i i hi
    split at h
    · rename_i hb; cases h; exact ⟨i, hi, hb, rfl⟩
    · cases h
  · cases h

theorem slc_ok {t e es : Nat} {j : TypeInfo} {x v : Value} {lo hi mx : Option Value} {w : World} (ht : P.underlying t = some (.slice e)) (he : P.info? e = some j) (hs : es = j.size)
    (h : (Pu.slc es x lo hi mx).ev = some v) : (Instr.sliceAt t x lo hi mx).run P w = .ok v w := by
  simp only [Pu.ev] at h
  cases x <;> simp only [slcV] at h <;> try cases h
  rename_i a len cap
  cases hm : bndV mx cap cap with
  | none => simp only [hm] at h; cases h
  | some m =>
    simp only [hm] at h
    cases hh : bndV hi m len with
    | none => simp only [hh] at h; cases h
    | some hv =>
      simp only [hh] at h
      cases hl : bndV lo hv 0 with
      | none => simp only [hl] at h; cases h
      | some l =>
        simp only [hl] at h
        split at h
        · cases h
        · rename_i hmh
          cases h
          simp only [Instr.sliceAt, Sem.run_bind, rN_underlying ht, Result.andThen_ok, Instr.slice]
          cases mx with
          | none =>
            simp only [bndV, Option.some.injEq] at hm
            subst hm
            cases hi with
            | none =>
              simp only [bndV, Option.some.injEq] at hh
              subst hh
              cases lo with
              | none => simp only [bndV, Option.some.injEq] at hl; subst hl; simp [Instr.sliceBounds, rN_sizeOf he, hs]
              | some u => obtain ⟨i, e1, e2, e3⟩ := bnd_inv hl; simp [Instr.sliceBounds, rN_sizeOf he, hs, sliceBound_ok e1 e2 e3 w]
            | some q =>
              obtain ⟨i, e1, e2, e3⟩ := bnd_inv hh
              cases lo with
              | none => simp only [bndV, Option.some.injEq] at hl; subst hl; simp [Instr.sliceBounds, rN_sizeOf he, hs, sliceBound_ok e1 e2 e3 w]
              | some u => obtain ⟨i', e1', e2', e3'⟩ := bnd_inv hl; simp [Instr.sliceBounds, rN_sizeOf he, hs, sliceBound_ok e1 e2 e3 w, sliceBound_ok e1' e2' e3' w]
          | some r =>
            obtain ⟨i0, f1, f2, f3⟩ := bnd_inv hm
            cases hi with
            | none => simp at hmh
            | some q =>
              obtain ⟨i, e1, e2, e3⟩ := bnd_inv hh
              cases lo with
              | none => simp only [bndV, Option.some.injEq] at hl; subst hl; simp [Instr.sliceBounds, rN_sizeOf he, hs, sliceBound_ok e1 e2 e3 w, sliceBound_ok f1 f2 f3 w]
              | some u => obtain ⟨i', e1', e2', e3'⟩ := bnd_inv hl; simp [Instr.sliceBounds, rN_sizeOf he, hs, sliceBound_ok e1 e2 e3 w, sliceBound_ok e1' e2' e3' w, sliceBound_ok f1 f2 f3 w]

theorem iad_ok {t e es : Nat} {j : TypeInfo} {x i v : Value} {w : World} (ht : P.underlying t = some (.slice e)) (he : P.info? e = some j) (hs : es = j.size)
    (h : (Pu.iad es x i).ev = some v) : (Instr.indexAt t x i).run P w = .ok v w := by
  simp only [Pu.ev] at h
  split at h
  all_goals (rename_i heq; try cases heq)
  · rename_i a ln c k n
    split at h
    · rename_i hb
      cases h
      simp [Instr.indexAt, asIntOf, rN_underlying ht, rN_sizeOf he, hs, hb.1, hb.2]
    · cases h
  all_goals (cases h)

theorem aad_ok {t n e es : Nat} {j : TypeInfo} {x i v : Value} {w : World} (ht : P.underlying t = some (.array n e)) (he : P.info? e = some j) (hs : es = j.size)
    (h : (Pu.aad n es x i).ev = some v) : (Instr.indexAt t x i).run P w = .ok v w := by
  simp only [Pu.ev] at h
  split at h
  all_goals (rename_i heq; try cases heq)
  · rename_i a k m
    split at h
    · rename_i hb
      cases h
      simp [Instr.indexAt, Instr.sureAddr, asIntOf, rN_underlying ht, rN_sizeOf he, hs, hb.1, hb.2]
    · cases h
  all_goals (cases h)

theorem fad_ok {t f off n : Nat} {ag : Bool} {fs : Array Field} {x v : Value} {w : World} (ht : P.underlying t = some (.struct fs)) (hf : (fs.toList.map (fldOf P))[f]? = some (off, n, ag)) (hn : n ≠ 0)
    (h : (Pu.fad off x).ev = some v) : (Instr.fieldAt t x f).run P w = .ok v w := by
  simp only [List.getElem?_map, Option.map_eq_some_iff] at hf
  obtain ⟨fd, hfd, e⟩ := hf
  obtain ⟨rfl, j, d, hj, _, rfl, _⟩ := fld_inv e hn
  have hfd' : fs[f]? = some fd := by simpa using hfd
  cases x <;> simp only [Pu.ev] at h <;> try cases h
  rename_i a
  cases a <;> simp only [Pu.ev] at h <;> try cases h
  simp [Instr.fieldAt, rN_underlying ht, hfd', Instr.sureAddr, fieldPlace, rN_sizeOf hj, hn]

theorem fld_ok {t f off n : Nat} {ag : Bool} {fs : Array Field} {x v : Value} {w : World} (ht : P.underlying t = some (.struct fs)) (hf : (fs.toList.map (fldOf P))[f]? = some (off, n, ag)) (hn : n ≠ 0)
    (h : (Pu.fld off n ag x).ev = some v) : (Instr.field t x f).run P w = .ok v w := by
  simp only [List.getElem?_map, Option.map_eq_some_iff] at hf
  obtain ⟨fd, hfd, e⟩ := hf
  obtain ⟨rfl, j, d, hj, hd, rfl, rfl⟩ := fld_inv e hn
  have hfd' : fs[f]? = some fd := by simpa using hfd
  cases x <;> simp only [Pu.ev] at h <;> try cases h
  rename_i cs
  simp only [Instr.field, Sem.run_bind, rN_underlying ht, Result.andThen_ok, hfd', asAgg, Sem.run_pure, part, rN_isAgg hd, Sem.run_ite]
  by_cases ha : isAggD d = true
  · rw [if_pos ha] at h ⊢
    cases h
    simp only [rN_sizeOf hj, Result.andThen_ok]
    congr 2
    apply Array.ext'
    simp [List.extract_eq_take_drop]
  · rw [if_neg ha] at h ⊢
    have : cs[fd.offset]? = some v := by simpa using h
    simp [this]

theorem tas_ok {xt t : Nat} {i : TyI} {k : IntKind} {x v : Value} {w : World} (ht : tyOf P t = some i) (hk : i.k = .int k) (hz : i.zero ≠ .tuple #[]) (h : (Pu.tas t i.zero x).ev = some v) : (Instr.typeAssert x xt t true).run P w = .ok v w := by
  obtain ⟨j, d0, hj, hd0, _, _, _, hzz⟩ := ty_inv ht
  obtain ⟨d, hd, hki⟩ := ty_k ht
  rw [hk] at hki
  simp only at hki
  subst hki
  have hz' : j.zero = some i.zero := by
    cases hjz : j.zero with
    | none => rw [hjz] at hzz; exact absurd hzz hz
    | some z => rw [hjz] at hzz; simp at hzz; rw [hzz]
  cases x <;> simp only [Pu.ev] at h <;> try cases h
  rename_i u y
  simp only [Instr.typeAssert, Sem.run_bind, rN_underlying hd, Result.andThen_ok]
  by_cases hu : u = t
  · simp [hu]
  · simp [hu, rN_zero hj hz']

end
end Go.Lb
