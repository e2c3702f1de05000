/- Rules for the judgement on trees: copying, making, slicing what is owned, strings, maps. No statement of the seat is proved in this file. -/
import Derived.Test.YtkblnbbpeakgmaaGreatV
set_option linter.all false
namespace Go.Lb

/-- ys laid over xs from place i on -/
def lay {α : Type} (xs : List α) (i : Nat) (ys : List α) : List α := xs.take i ++ ys.take (xs.length - i) ++ xs.drop (i + ys.length)
theorem lay_len {α : Type} {xs ys : List α} {i : Nat} (h : i ≤ xs.length) : (lay xs i ys).length = xs.length := by
  simp [lay]; omega

section
variable {P : Program} {hb : Nat → Bool} {d : Bool} {ro : HP} {S : List Asrt} {R : Value → List Asrt → Prop} {Ev : Nat → List Value → List Asrt → Prop}
variable {α : Type} {rα : Rep α}

/-- what is needed of a slice that is seen: its first cells, and that they are things -/
theorem W_src {v2 : Value} {ys : List α} {m : Nat} {t : Tr} {S1 : List Asrt} {B : Asrt} (see : SeeS false ro S1 v2 ys) (hm : m ≤ ys.length)
    (h : ∀ S' xb xc cs, v2 = .slice xb ys.length xc → Ent S' (B :: S1) → (∀ F w0 w, Hs ro S' F w0 w → Hs ro (repsA (ys.take m) cs :: S') F w0 w ∧ cellsOfV (hof w) (Rep.es α) m (.slice xb ys.length xc) = some cs) → WT P hb t d ro S' R Ev) : WT P hb t d ro (B :: S1) R Ev := by
  have m' : SeeS false ro (B :: S1) v2 ys := let ⟨A, a, i⟩ := see; ⟨A, a.cons, i⟩
  refine W_lookS m' ?_ ?_
  · rintro a c rfl rfl
    have : m = 0 := by simpa using hm
    subst this
    exact h _ a c [] rfl (Ent.refl _) fun F w0 w hs => ⟨hs.ent (ent_triv rfl), cellsOfV_nil⟩
  · rintro b off cap pre cells post S' A' rfl hc hpre hlen e' mA hA see
    have hml : m * Rep.es α ≤ cells.length := by rw [hlen]; exact Nat.mul_le_mul_right _ hm
    refine h S' (some ⟨b, off, none⟩) cap (cells.take (m * Rep.es α)) rfl e' fun F w0 w hs => ?_
    have hp : ∃ F, Holds ro (S' ++ [F]) w := ⟨F, hs.2⟩
    obtain ⟨o, ho, po⟩ := see S' mA w (by simpa using hp)
    constructor
    · rcases mA with ⟨g, a, l⟩ | ⟨_, mA⟩
      · exact ⟨hs.1, Holds.kn ⟨g, reps_take m (hA g a) hm, l⟩ (repsA_dup _ _) hs.2⟩
      · obtain ⟨S2, pk2⟩ := mA.pick
        refine hs.ent ?_
        refine pk2.ent.trans (Ent.trans (S' := repsA (ys.take m) (cells.take (m * Rep.es α)) :: A' :: S2) ?_ (Ent.cons _ (Ent.perm pk2.perm.symm)))
        rintro hh ⟨h1, h2, ah, s, dj, l1, l2⟩
        exact ⟨fzp h1, hun h1 h2, reps_dup (reps_take m (hA h1 ah) hm), ⟨h1, h2, ah, s, dj, hle_un_l _ _, hle_un_r dj⟩, hdj_un (fzp_dj h1) (hdj_sym (hdj_le (hdj_sym dj) (fzp_le h1))), hle_trans (fzp_le h1) l1, hun_le l1 l2⟩
    · simp only [cellsOfV]
      rw [rdN_blk ho po (by simp; omega)]
      subst hpre
      have := take_drop_mid (pre := pre) (cells := cells) (post := post) (i := 0) (m := m * Rep.es α) (by omega)
      simp only [Nat.add_zero, List.drop_zero] at this
      rw [this]

theorem Nat.min_eq' (a b : Nat) : Nat.min a b = min a b := rfl

/-- the rest of a slice, from a place on -/
theorem W_slcP {es : Nat} {v : Value} {xs : List α} {q : IntKind} {i : Int} {k : Value → Tr} (m : SeeS false ro S v xs) (hi : 0 ≤ i ∧ i ≤ xs.length) (x : ∀ u, slcV es v (some (.int q i)) none none = some u → WT P hb (k u) d ro S R Ev) :
    WT P hb (.pu (.slc es v (some (.int q i)) none none) k) d ro S R Ev := by
  refine W_shape m ?_
  rintro (⟨⟨a, c, rfl⟩, e⟩ | ⟨b, off, cap, rfl, hc⟩)
  · have : i = 0 := by omega
    subst this
    obtain ⟨u, h⟩ : ∃ u, slcV es (.slice a 0 c) (some (.int q 0)) none none = some u := by simp [slcV, bndV, intOfV]
    exact W_pu h (x _ h)
  · obtain ⟨j, rfl⟩ : ∃ j : Nat, i = j := ⟨i.toNat, by omega⟩
    have h : slcV es (.slice (some ⟨b, off, none⟩) xs.length cap) (some (.int q j)) none none = some (.slice (if cap = j then some ⟨b, off, none⟩ else some ⟨b, off + j * es, none⟩) (xs.length - j) (cap - j)) := by
      simp only [slcV, bndV_none, bndV, intOfV]
      rw [if_pos ⟨by omega, by omega⟩]
      simp [Addr.add_eq]
    exact W_pu h (x _ h)
/-- copying to a place of what is owned -/
theorem W_cpyAt {es : Nat} {v v2 u : Value} {xs ys : List α} {q : IntKind} {i : Int} {S1 : List Asrt} {k : Value → Tr} (hu : slcV es v (some (.int q i)) none none = some u) (pk : Pick S (own v xs) S1) (see : SeeS false ro S1 v2 ys) (he : es = Rep.es α) (hi : 0 ≤ i ∧ i ≤ xs.length)
    (x : WT P hb (k (.int .i64 (min ys.length (xs.length - i.toNat) : Nat))) d ro (own v (lay xs i.toNat ys) :: S1) R Ev) : WT P hb (.hv (.cpy es u v2) k) d ro S R Ev := by
  subst he
  obtain ⟨j, rfl⟩ : ∃ j : Nat, i = j := ⟨i.toNat, by omega⟩
  simp only [Int.toNat_natCast] at *
  have hj : j ≤ xs.length := by omega
  refine W_ent pk.ent ?_
  refine W_src (B := own v xs) (m := min ys.length (xs.length - j)) see (by omega) ?_
  rintro S' xb xc cs rfl e' hcs
  intro F w0 w hs
  obtain ⟨h1, h2⟩ := hcs F w0 w hs
  have h3 : Hs ro (own v xs :: repsA (ys.take (min ys.length (xs.length - j))) cs :: S1) F w0 w := h1.ent ((Ent.cons _ e').trans (Ent.swap _ _ _))
  have hcl : cs.length = min ys.length (xs.length - j) * Rep.es α := by
    obtain ⟨_, _, ⟨_, _, _, ⟨_, _, r, _⟩, _⟩, _⟩ := h3
    have := reps_len r
    rw [this, List.length_take]
    congr 1
    omega
  have hco : cs.all Value.oneCell' = true := by
    obtain ⟨_, _, ⟨_, _, _, ⟨_, _, r, _⟩, _⟩, _⟩ := h3
    exact reps_oc r
  rcases h3.own_open with ⟨rfl, rfl, h⟩ | ⟨b, off, cap, pre, post, cells, rfl, hcap, hpre, hpost, hlen, h⟩
  · have : j = 0 := by simpa using hj
    subst this
    have hu' : u = .slice none 0 0 := by
      simp [slcV, bndV, intOfV] at hu
      exact hu.symm
    subst hu'
    refine ⟨_, _, _, ?_, hs.ent e', by simpa [lay] using x⟩
    simp [Hv.run, cellsOfV, Nat.min_eq']
    cases xb <;> simp [rdN]
  · have hu' : u = .slice (some ⟨b, if cap = j then off else off + j * Rep.es α, none⟩) (xs.length - j) (cap - j) := by
      simp only [slcV, bndV_none, bndV, intOfV] at hu
      rw [if_pos ⟨by omega, by omega⟩] at hu
      simp only [Option.isSome_none, Bool.and_false, Bool.false_eq_true, if_false, Int.toNat_natCast, Option.some.injEq] at hu
      rw [← hu]
      split <;> simp [Addr.add_eq]
    subst hu'
    have hlay : xs.take j ++ ys.take (min ys.length (xs.length - j)) ++ xs.drop (j + (ys.take (min ys.length (xs.length - j))).length) = lay xs j ys := by
      unfold lay
      rw [List.length_take]
      by_cases hh : ys.length ≤ xs.length - j
      · rw [List.take_of_length_le (l := ys) (i := xs.length - j) (by omega), List.take_of_length_le (l := ys) (by omega)]
        congr 2
        omega
      · rw [show min ys.length (xs.length - j) = xs.length - j from by omega]
        congr 1
        rw [List.drop_eq_nil_of_le (by omega), List.drop_eq_nil_of_le (by omega)]
    by_cases h0 : cs = []
    · have hm0 : min ys.length (xs.length - j) = 0 := by
        rw [h0] at hcl
        have := Rep.pos (α := α)
        rcases Nat.mul_eq_zero.1 hcl.symm with h | h <;> omega
      refine ⟨.int .i64 (min ys.length (xs.length - j) : Nat), w, _, ?_, (h3.ent (Ent.cons _ (Ent.drop _ _))), ?_⟩
      · simp only [Hv.run, Nat.min_eq', h2, h0]
        simp
      · rw [← hlay, hm0] at x
        rw [hm0]
        simpa using x
    · have hm0 : 0 < min ys.length (xs.length - j) := by
        rcases Nat.eq_zero_or_pos (min ys.length (xs.length - j)) with h | h
        · rw [h] at hcl; exact absurd (List.length_eq_zero_iff.1 (by simpa using hcl)) h0
        · exact h
      have hsum : j * Rep.es α + cs.length ≤ cells.length := by
        rw [hcl, hlen, ← Nat.add_mul]
        exact Nat.mul_le_mul_right _ (by omega)
      obtain ⟨o, eo, ⟨t, fz, rfl, hfz⟩, up⟩ := hs_upd (.hd) h
      refine ⟨.int .i64 (min ys.length (xs.length - j) : Nat), _, _, ?_, (up _ _ (isBlk_splice (off := off + j * Rep.es α) (xs := cs) (e := t) hfz (by simp; omega))).ent ?_, x⟩
      · simp only [Hv.run, Nat.min_eq', h2, h0, if_false]
        rw [if_neg (by omega), wr_blk eo hfz (by simp; omega) hco]
        rfl
      · subst hpre
        rw [splice_mid hsum]
        refine (Ent.cons _ (ent_reps2 (zs := lay xs j ys) (f := splice cells (j * Rep.es α) cs) fun h a b => ?_)).trans ?_
        · rw [← hlay]
          exact reps_splice a b (by simp; omega)
        · have hl := lay_len (xs := xs) (ys := ys) hj
          have := ent_own (S := S1) (b := b) (off := pre.length) (cap := cap) (pre := pre) (cells := splice cells (j * Rep.es α) cs) (post := post) (xs := lay xs j ys) (by omega) rfl (by rw [hl]; exact hpost)
          rw [hl] at this
          exact this
/-- copying to the beginning of what is owned -/
theorem W_cpy0 {es : Nat} {v v2 : Value} {xs ys : List α} {S1 : List Asrt} {k : Value → Tr} (pk : Pick S (own v xs) S1) (see : SeeS false ro S1 v2 ys) (he : es = Rep.es α)
    (x : WT P hb (k (.int .i64 (min ys.length xs.length : Nat))) d ro (own v (lay xs 0 ys) :: S1) R Ev) : WT P hb (.hv (.cpy es v v2) k) d ro S R Ev := by
  refine W_ent pk.ent (W_shape (SeeS.own (At.mem .hd)) fun sh => ?_)
  have hu : slcV es v (some (.int .i64 0)) none none = some v := by
    rcases sh with ⟨⟨a, c, rfl⟩, _⟩ | ⟨b, off, cap, rfl, _⟩
    · simp [slcV, bndV, intOfV]
      intro _
      cases a with
      | none => rfl
      | some a => simp [Addr.add]
    · simp only [slcV, bndV_none, bndV, intOfV]
      simp
      intro _
      unfold Addr.add
      simp
  refine W_cpyAt (i := 0) hu .hd see he (by omega) ?_
  simpa using x

/-- making many noughts -/
theorem reps_repL {α : Type} [Rep α] {z : α} {ez : List Value} (h : ∀ g, Rep.rep z ez g) (n : Nat) : ∀ g, reps (List.replicate n z) (repL ez n) g := by
  intro g
  induction n with
  | zero => rfl
  | succ n ih => exact ⟨ez, repL ez n, rfl, h g, ih⟩
theorem own_blk {α : Type} [Rep α] {b : Nat} {l : List Value} {xs : List α} (r : ∀ g, reps xs l g) : Ent (blk b l :: S) (own (.slice (some ⟨b, 0, none⟩) xs.length xs.length) xs :: S) := by
  refine Ent.trans (S' := blk b ([] ++ l ++ []) :: repsA xs l :: S) ?_ (ent_own (Nat.le_refl _) rfl (by simp))
  rw [List.nil_append, List.append_nil]
  exact Ent.cons _ (ent_triv (r _))
theorem W_mkS {e es eb : Nat} {ez : List Value} {n : Int} {z : α} {k : Value → Tr} (he : es = Rep.es α) (hz : ∀ g, Rep.rep z ez g) (h : 0 ≤ n ∧ eb * n ≤ 2 ^ 48 ∧ n ≤ 2 ^ 62)
    (x : ∀ v, WT P hb (k v) d ro (own v (List.replicate n.toNat z) :: S) R Ev) : WT P hb (.al (.mks e es eb ez (.int .i64 n) (.int .i64 n)) k) d ro S R Ev := by
  subst he
  refine W_mks ⟨h.1, by omega, h.2.1, h.2.2, Rep.len (hz fun _ => none), Rep.pos⟩ fun b => ?_
  have := own_blk (S := S) (b := b) (reps_repL hz n.toNat)
  rw [List.length_replicate] at this
  exact W_ent this (x _)
/-- a row of things, named one by one -/
theorem W_bslS {e es n : Nat} {ez l : List Value} {ps : List (Nat × Nat × Value)} {ys : List α} {S1 : List Asrt} {k : Value → Tr} (he : es = Rep.es α) (h : bldV (repL ez n) ps = some l) (hn : ys.length = n) (h0 : n * es ≤ 2 ^ 24 ∧ ez.length = es) (r : Ent S (repsA ys l :: S1))
    (x : ∀ v, WT P hb (k v) d ro (own v ys :: S1) R Ev) : WT P hb (.al (.bsl e es n ez ps) k) d ro S R Ev := by
  subst he hn
  refine W_ent r ?_
  refine W_bsl h ⟨h0.1, h0.2, Rep.pos⟩ fun b => ?_
  have := ent_own (S := S1) (b := b) (off := 0) (cap := ys.length) (pre := []) (cells := l) (post := []) (xs := ys) (Nat.le_refl _) rfl (by simp)
  rw [List.nil_append, List.append_nil] at this
  exact W_ent this (x _)

/-- the first of what is owned -/
theorem W_takeO {es : Nat} {v : Value} {xs : List α} {hi : Option Value} {c : Nat} {S1 : List Asrt} {k : Value → Tr} (pk : Pick S (own v xs) S1) (he : es = Rep.es α) (h1 : ∀ cap, xs.length ≤ cap → bndV hi cap xs.length = some c) (hc : c ≤ xs.length)
    (x : ∀ u, WT P hb (k u) d ro (own u (xs.take c) :: S1) R Ev) : WT P hb (.pu (.slc es v none hi none) k) d ro S R Ev := by
  subst he
  refine W_openS pk ?_ ?_
  · rintro rfl rfl
    have hc0 : c = 0 := by simpa using hc
    subst hc0
    refine W_pu (v := .slice none 0 0) ?_ (W_ent (by simpa using ent_ownNil) (x _))
    have := h1 0 (by simp)
    simp only [List.length_nil] at this
    simp [Pu.ev, slcV, bndV_none, this]
  · rintro b off cap pre post cells rfl hcap hpre hpost hlen
    have hcx : c * Rep.es α ≤ xs.length * Rep.es α := Nat.mul_le_mul_right _ hc
    refine W_pu (v := .slice (some ⟨b, off, none⟩) c cap) ?_ (W_ent ?_ (x _))
    · simp only [Pu.ev, slcV, bndV_none, h1 cap hcap, Option.isSome_none, Bool.and_false, Bool.false_eq_true, if_false]
      split <;> simp
      unfold Addr.add
      simp
    · have hl : (xs.take c).length = c := by simp; omega
      have := ent_own (S := S1) (b := b) (off := off) (cap := cap) (pre := pre) (cells := cells.take (c * Rep.es α)) (post := cells.drop (c * Rep.es α) ++ post) (xs := xs.take c) (by omega) hpre (by
        rw [hl, List.length_append, List.length_drop, hlen]
        have h2 : (cap - c) * Rep.es α = (cap - xs.length) * Rep.es α + (xs.length * Rep.es α - c * Rep.es α) := by
          rw [← Nat.sub_mul, ← Nat.add_mul]
          congr 1
          omega
        omega)
      rw [hl] at this
      refine Ent.trans (S' := blk b (pre ++ cells.take (c * Rep.es α) ++ (cells.drop (c * Rep.es α) ++ post)) :: repsA (xs.take c) (cells.take (c * Rep.es α)) :: S1) ?_ this
      have e2 : pre ++ cells.take (c * Rep.es α) ++ (cells.drop (c * Rep.es α) ++ post) = pre ++ cells ++ post := by
        rw [List.append_assoc, ← List.append_assoc (cells.take _), List.take_append_drop, List.append_assoc]
      rw [e2]
      exact Ent.cons _ (Ent.one (fun h r => reps_take c r hc) _)
end

/-! ### bytes -/
section
variable {P : Program} {hb : Nat → Bool} {d : Bool} {ro : HP} {S : List Asrt} {R : Value → List Asrt → Prop} {Ev : Nat → List Value → List Asrt → Prop}

theorem reps_sc {α : Type} [Sc α] {g : HP} : ∀ {xs : List α} {c : List Value}, reps xs c g ↔ c = xs.map val
  | [], c => Iff.rfl
  | x :: xs, c => by
    simp only [reps, reps_sc, List.map_cons]
    constructor
    · rintro ⟨a, b, rfl, rfl, rfl⟩; rfl
    · rintro rfl; exact ⟨_, _, rfl, rfl, rfl⟩
theorem bytesOfV_map (l : List UInt8) : bytesOfV (l.map val) = some l := by
  induction l with
  | nil => rfl
  | cons x l ih =>
    simp only [List.map_cons]
    show (bytesOfV (l.map val)).map (UInt8.ofNat (Int.toNat x.toNat) :: ·) = _
    rw [ih]
    simp

/-- bytes as a string -/
def str (l : List UInt8) : Value := .string ⟨⟨l⟩⟩
theorem W_b2s {v : Value} {xs : List UInt8} {k : Value → Tr} (m : SeeS d ro S v xs) (x : WT P hb (k (str xs)) d ro S R Ev) : WT P hb (.rd (.b2s v) k) d ro S R Ev := by
  refine W_lookS m ?_ ?_
  · rintro a c rfl rfl
    refine W_rd (fun w _ => ?_) x
    cases a <;> simp [Rd.ev, rdN, bytesOfV] <;> rfl
  · rintro b off cap pre cells post S' A' rfl hc hpre hlen e' mA hA see
    refine W_at (p := cells = xs.map val) mA.f (fun g a => reps_sc.1 (hA g a)) fun hcells => ?_
    refine W_rd (v := str xs) (fun w hw => ?_) (WT.ent _ e' x)
    obtain ⟨o, ho, po⟩ := see S' mA w hw
    have hl : cells.length = xs.length := by rw [hcells]; simp
    simp only [Rd.ev]
    rw [rdN_blk ho po (by simp; omega)]
    subst hpre
    have := take_drop_mid (pre := pre) (cells := cells) (post := post) (i := 0) (m := cells.length) (by omega)
    simp only [Nat.add_zero, List.drop_zero, List.take_length] at this
    rw [← hl, this, hcells]
    simp only [bytesOfV_map]
    rfl
theorem ba_toList_go (l : List UInt8) : ∀ (n i : Nat) (acc : List UInt8), l.length - i = n → i ≤ l.length → ByteArray.toList.loop ⟨⟨l⟩⟩ i acc = acc.reverse ++ l.drop i := by
  intro n
  induction n with
  | zero =>
    intro i acc h hi
    unfold ByteArray.toList.loop
    rw [if_neg (by show ¬ i < l.length; omega), List.drop_eq_nil_of_le (by omega), List.append_nil]
  | succ n ih =>
    intro i acc h hi
    unfold ByteArray.toList.loop
    have hlt : i < l.length := by omega
    rw [if_pos (by show i < l.length; omega), ih (i + 1) _ (by omega) (by omega)]
    rw [List.drop_eq_getElem_cons hlt]
    simp [ByteArray.get!, hlt]
theorem ba_toList (l : List UInt8) : (⟨⟨l⟩⟩ : ByteArray).toList = l := by
  unfold ByteArray.toList
  rw [ba_toList_go l l.length 0 [] (by omega) (by omega)]
  simp
theorem W_strEq {a b : List UInt8} {k : Value → Tr} (x : WT P hb (k (.bool (a == b))) d ro S R Ev) : WT P hb (.pu (.bin .eql (str a) (str b)) k) d ro S R Ev :=
  W_pu (by show some (Value.bool ((⟨⟨a⟩⟩ : ByteArray).toList == (⟨⟨b⟩⟩ : ByteArray).toList)) = _; rw [ba_toList, ba_toList]) x
theorem W_strNe {a b : List UInt8} {k : Value → Tr} (x : WT P hb (k (.bool (a != b))) d ro S R Ev) : WT P hb (.pu (.bin .neq (str a) (str b)) k) d ro S R Ev :=
  W_pu (by show some (Value.bool !((⟨⟨a⟩⟩ : ByteArray).toList == (⟨⟨b⟩⟩ : ByteArray).toList)) = _; rw [ba_toList, ba_toList]; rfl) x
theorem W_sln {a : List UInt8} {k : Value → Tr} (x : WT P hb (k (.int .i64 a.length)) d ro S R Ev) : WT P hb (.pu (.sln (str a)) k) d ro S R Ev := W_pu rfl x
/-- a string as bytes -/
theorem W_s2b {e : Nat} {xs : List UInt8} {k : Value → Tr} (x : ∀ v, WT P hb (k v) d ro (own v xs :: S) R Ev) : WT P hb (.hv (.s2b e (str xs)) k) d ro S R Ev := by
  intro F w0 w hs
  have hcap' : xs.length ≤ Question.cut (.appendCap xs.length 0 e) (w.tape w.drawn (.appendCap xs.length 0 e)) := grown_cap
  generalize hcap : Question.cut (.appendCap xs.length 0 e) (w.tape w.drawn (.appendCap xs.length 0 e)) = cap at hcap'
  refine ⟨.slice (some ⟨w.heap.size, 0, none⟩) xs.length cap, { w with heap := w.heap.push (.cells ⟨xs.map val ++ List.replicate (cap - xs.length) (.int .u8 0)⟩ e (cap, cap + 1)), drawn := w.drawn + 1 }, own (.slice (some ⟨w.heap.size, 0, none⟩) xs.length cap) xs :: S, ?_, ?_, x _⟩
  · simp only [Hv.run, str]
    have : (⟨⟨xs⟩⟩ : ByteArray).size = xs.length := rfl
    rw [this, hcap]
    rfl
  · have h1 : Hs ro (one w.heap.size (· = .cells ⟨xs.map val ++ List.replicate (cap - xs.length) (.int .u8 0)⟩ e (cap, cap + 1)) :: S) F w0 { w with heap := w.heap.push (.cells ⟨xs.map val ++ List.replicate (cap - xs.length) (.int .u8 0)⟩ e (cap, cap + 1)), drawn := w.drawn + 1 } := ⟨hs.1, hs.2.push _⟩
    have h2 : Hs ro (blk w.heap.size ([] ++ xs.map val ++ List.replicate (cap - xs.length) (.int .u8 0)) :: repsA xs (xs.map val) :: S) F w0 { w with heap := w.heap.push (.cells ⟨xs.map val ++ List.replicate (cap - xs.length) (.int .u8 0)⟩ e (cap, cap + 1)), drawn := w.drawn + 1 } := by
      refine h1.ent ((Ent.one ?_ _).trans (Ent.cons _ (ent_triv (reps_sc.2 rfl))))
      rintro h ⟨o, ho, rfl⟩
      refine ⟨_, ho, e, (cap, cap + 1), rfl, .inr ?_⟩
      simp; omega
    exact h2.ent (ent_own hcap' rfl (by simp [Rep.es, Enc.es]))
end

/-! ### maps -/
section
variable {P : Program} {hb : Nat → Bool} {d : Bool} {ro : HP} {S : List Asrt} {R : Value → List Asrt → Prop} {Ev : Nat → List Value → List Asrt → Prop}
theorem W_mln {b : Nat} {es : List MapEntry} {ck : Nat} {k : Value → Tr} (m : At d ro S (mp b es ck)) (x : WT P hb (k (.int .i64 es.length)) d ro S R Ev) : WT P hb (.rd (.mln (.map (some b))) k) d ro S R Ev := by
  refine W_rd (fun w hw => ?_) x
  obtain ⟨g, ⟨o, ho, rfl⟩, Hg⟩ := m.holds hw
  simp only [Rd.ev, Hg _ _ _ ho]
  simp
theorem W_mlk {kk : KK} {z kv v : Value} {ok : Bool} {b : Nat} {es : List MapEntry} {ck : Nat} {k : Value → Tr} (m : At d ro S (mp b es ck)) (h : (match mfind kk kv es 0 with
      | some (some (_, v)) => some (if ok then .tuple #[v, .bool true] else v)
      | some none => some (if ok then .tuple #[z, .bool false] else z)
      | none => none) = some v)
    (x : WT P hb (k v) d ro S R Ev) : WT P hb (.rd (.mlk kk z ok (.map (some b)) kv) k) d ro S R Ev := by
  refine W_rd (fun w hw => ?_) x
  obtain ⟨g, ⟨o, ho, rfl⟩, Hg⟩ := m.holds hw
  simp only [Rd.ev, Hg _ _ _ ho]
  exact h
theorem W_mup {kk : KK} {kv v : Value} {b : Nat} {es : List MapEntry} {ck : Nat} {S1 : List Asrt} {k : Value → Tr} (pk : Pick S (mp b es ck) S1) (h : mfind kk kv es 0 = some none)
    (x : WT P hb (k (.tuple #[])) d ro (mp b (es ++ [{ key := kv, val := v, born := ck }]) (ck + 1) :: S1) R Ev) : WT P hb (.hv (.mup kk (.map (some b)) kv v) k) d ro S R Ev := by
  intro F w0 w hw
  obtain ⟨o, e, rfl, up⟩ := hs_upd pk hw
  refine ⟨_, _, _, ?_, up (.map ⟨es ++ [{ key := kv, val := v, born := ck }]⟩ (ck + 1)) (· = _) rfl, x⟩
  simp only [Hv.run, e, h]
  simp
end

end Go.Lb
