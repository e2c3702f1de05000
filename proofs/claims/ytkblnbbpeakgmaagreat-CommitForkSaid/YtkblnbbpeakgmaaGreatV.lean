/- Rules for the judgement on trees: writing, appending, copying. No statement of the seat is proved in this file. -/
import Derived.Test.YtkblnbbpeakgmaaGreatS
import Derived.Laws.Append
set_option linter.all false
namespace Go.Lb

/-- a value is a thing -/
def isA {α : Type} [Rep α] (u : Value) (y : α) : Asrt := fun h => Rep.rep y u.cells.toList h
theorem isA_dup {α : Type} [Rep α] (u : Value) (y : α) : Dup (isA u y) := fun _ r => Rep.dup r

section
variable {P : Program} {hb : Nat → Bool} {d : Bool} {ro : HP} {S : List Asrt} {R : Value → List Asrt → Prop} {Ev : Nat → List Value → List Asrt → Prop}

theorem ent_triv {A : Asrt} (h : A (fun _ => none)) : Ent S (A :: S) := fun g s => ⟨fun _ => none, g, h, s, hdj_sym (hdj_none _), fun _ _ e => (by cases e), hle_refl _⟩
theorem ent_enc {α : Type} {rα : Enc α} {u : Value} {y : α} (h : u.cells.toList = Enc.enc y) : Ent S (isA u y :: S) := ent_triv h
theorem cells_oc {u : Value} (h : u.oneCell' = true) : u.cells.toList = [u] := by
  revert h
  cases u <;> simp [Value.oneCell', Value.cells]
theorem ent_val {α : Type} {rα : Sc α} {y : α} : Ent S (isA (val y) y :: S) := ent_enc (cells_oc (Sc.oc y))
theorem Pick.to {A B : Asrt} {S' : List Asrt} (p : Pick S A S') (d : Dup A) (i : ∀ g, A g → B g) : Ent S (B :: S) := (p.dup d).trans (Ent.one i S)
theorem frz_isA {α : Type} [Rep α] {u : Value} {ys : List α} {g : HP} (f : frz u ys g) : isA u ys g := ⟨u, cells_oc (frz_oc f), f⟩
theorem ent_frz {α : Type} {rα : Rep α} {u : Value} {ys : List α} (m : Mem (frz u ys) S) : Ent S (isA u ys :: S) := let ⟨_, p⟩ := m.pick; p.to (frz_dup _ _) fun _ => frz_isA

/-- reading a number, or whatever is one cell -/
theorem W_ixV {α : Type} {rα : Sc α} {v : Value} {xs : List α} {q : IntKind} {i : Int} {x : α} {k : Value → Tr} (m : SeeS d ro S v xs) (h : 0 ≤ i) (hx : xs[i.toNat]? = some x)
    (y : WT P hb (k (val x)) d ro S R Ev) : WT P hb (.pu (.iad 1 v (.int q i)) fun z => .rd (.ld false 1 z) k) d ro S R Ev :=
  W_ix1 m rfl h hx fun u => W_pure (p := u = val x) .hd (fun g a => by have := reps_one.1 a; exact (List.cons.inj this).1) fun e => by rw [e]; exact WT.ent _ (Ent.drop _ _) y
/-- a thing of a known form -/
theorem W_ixE {α : Type} {rα : Enc α} {es : Nat} {v : Value} {xs : List α} {q : IntKind} {i : Int} {x : α} {k : Value → Tr} (m : SeeS d ro S v xs) (he : es = Enc.es α) (h : 0 ≤ i) (hx : xs[i.toNat]? = some x)
    (y : WT P hb (k (.agg ⟨Enc.enc x⟩)) d ro S R Ev) : WT P hb (.pu (.iad es v (.int q i)) fun z => .rd (.ld true es z) k) d ro S R Ev :=
  W_ixN m he h hx fun c _ => W_pure (p := c = Enc.enc x) .hd (fun g a => reps_one.1 a) fun e => by rw [e]; exact WT.ent _ (Ent.drop _ _) y
/-- a cell of a thing of a known form -/
theorem W_ixEf {α : Type} {rα : Enc α} {es f : Nat} {v u : Value} {xs : List α} {q : IntKind} {i : Int} {x : α} {k : Value → Tr} (m : SeeS d ro S v xs) (he : es = Enc.es α) (h : 0 ≤ i) (hx : xs[i.toNat]? = some x) (hf : f < es) (hu : (Enc.enc x)[f]? = some u)
    (y : WT P hb (k u) d ro S R Ev) : WT P hb (.pu (.iad es v (.int q i)) fun z => .pu (.fad f z) fun z => .rd (.ld false 1 z) k) d ro S R Ev :=
  W_ixFld m he h hx hf fun c u' _ hu' => W_pure (p := c = Enc.enc x) .hd (fun g a => reps_one.1 a) fun e => by
    subst e
    rw [hu] at hu'
    cases hu'
    exact WT.ent _ (Ent.drop _ _) y
/-- a frozen slice out of many -/
theorem W_ixF {α : Type} {rα : Rep α} {v : Value} {xs : List (List α)} {q : IntKind} {i : Int} {x : List α} {k : Value → Tr} (m : SeeS d ro S v xs) (h : 0 ≤ i) (hx : xs[i.toNat]? = some x)
    (y : ∀ u, WT P hb (k u) d ro (frz u x :: S) R Ev) : WT P hb (.pu (.iad 1 v (.int q i)) fun z => .rd (.ld false 1 z) k) d ro S R Ev :=
  W_ix1 m rfl h hx fun u => W_conv .hd (fun g a => by
    obtain ⟨u', e, f⟩ := reps_one.1 a
    cases e
    exact f) (y u)

variable {α : Type} {rα : Rep α}

theorem cellsOfV_nil {h : HH} {es c : Nat} {a : Option Addr} : cellsOfV h es 0 (.slice a 0 c) = some [] := by
  cases a <;> simp [cellsOfV, rdN]
/-- a slice's value is a slice's -/
theorem seen_sl {α : Type} [Rep α] {v : Value} {xs : List α} {g : HP} (s : seen v xs g) : ∃ a n c, v = .slice a n c := by
  rcases seen_shape s with ⟨⟨_, _, rfl⟩, _⟩ | ⟨b, off, cap, rfl, _⟩
  · exact ⟨_, _, _, rfl⟩
  · exact ⟨_, _, _, rfl⟩
theorem W_slO {t : Tr} {v : Value} {xs : List α} (m : SeeS false ro S v xs) (h : ∀ a n c, v = .slice a n c → WT P hb t d ro S R Ev) : WT P hb t d ro S R Ev := by
  refine W_shape m ?_
  rintro (⟨⟨_, _, e⟩, _⟩ | ⟨b, off, cap, e, _⟩)
  · exact h _ _ _ e
  · exact h _ _ _ e

theorem isA_repsA {α : Type} [Rep α] {u : Value} {y : α} {g : HP} (h : isA u y g) : repsA [y] u.cells.toList g := reps_one.2 h
theorem star_two {A B C : Asrt} (i : ∀ h, (∀ g, hle g h → A g → A h) → (∀ g, hle g h → B g → B h) → A h → B h → C h) (ma : ∀ {g h}, hle g h → A g → A h) (mb : ∀ {g h}, hle g h → B g → B h) : Ent (A :: B :: S) (C :: S) := by
  rintro h ⟨h1, h2, a, ⟨h3, h4, b, s, d', l3, l4⟩, d, l1, l2⟩
  have d13 := hdj_le d l3
  have d14 := hdj_le d l4
  exact ⟨hun h1 h3, h4, i _ (fun _ l => ma l) (fun _ l => mb l) (ma (hle_un_l _ _) a) (mb (hle_un_r d13) b), s, hdj_sym (hdj_un (hdj_sym d14) (hdj_sym d')), hun_le l1 (hle_trans l3 l2), hle_trans l4 l2⟩
theorem repsA_mono {α : Type} [Rep α] {xs : List α} {c : List Value} {g h : HP} (l : hle g h) (r : repsA xs c g) : repsA xs c h := reps_mono l r
theorem ent_reps2 {α : Type} [Rep α] {xs ys zs : List α} {c e f : List Value} (i : ∀ h, reps xs c h → reps ys e h → reps zs f h) : Ent (repsA xs c :: repsA ys e :: S) (repsA zs f :: S) :=
  star_two (fun h _ _ a b => i h a b) (fun l r => repsA_mono l r) (fun l r => repsA_mono l r)

theorem splice_mid {pre cells post c : List Value} {i : Nat} (h : i + c.length ≤ cells.length) : splice (pre ++ cells ++ post) (pre.length + i) c = pre ++ splice cells i c ++ post := by
  unfold splice
  rw [show pre ++ cells ++ post = pre ++ (cells ++ post) from List.append_assoc _ _ _, List.take_length_add_append, List.take_append_of_le_length (by omega)]
  rw [show pre.length + i + c.length = pre.length + (i + c.length) from by omega, List.drop_length_add_append, List.drop_append_of_le_length (by omega)]
  simp [List.append_assoc]

/-- a thing is written -/
theorem W_ixst {es : Nat} {v : Value} {xs : List α} {q : IntKind} {i : Int} {y : α} {u : Value} {S1 S2 : List Asrt} {k : Value → Tr} (pk : Pick S (own v xs) S1) (e : Ent S1 (isA u y :: S2)) (he : es = Rep.es α) (h : 0 ≤ i) (hi : i.toNat < xs.length)
    (x : WT P hb (k (.tuple #[])) d ro (own v (xs.set i.toNat y) :: S2) R Ev) : WT P hb (.pu (.iad es v (.int q i)) fun z => .hv (.st es z u) k) d ro S R Ev := by
  subst he
  have hle := mul_le' (c := Rep.es α) hi
  refine W_ent (pk.ent.trans (Ent.cons _ e)) ?_
  refine W_openS .hd (fun _ e => ?_) ?_
  · subst e; simp at hi
  intro b off cap pre post cells rfl hc hpre hpost hlen
  refine W_pu (v := .pointer (some ⟨b, off + i.toNat * Rep.es α, none⟩)) ?_ ?_
  · simp only [Pu.ev]
    rw [if_pos ⟨h, by omega⟩, Addr.add_eq]
  refine W_pure (p := u.cells.toList.length = Rep.es α ∧ u.cells.toList.all Value.oneCell' = true) (.tl (.tl .hd)) (fun g a => ⟨Rep.len a, Rep.oc a⟩) ?_
  rintro ⟨hul, huo⟩
  refine W_st (.tl .hd) hul (by simp; omega) huo ?_
  subst hpre
  rw [splice_mid (by omega)]
  refine W_ent ?_ x
  refine Ent.trans (S' := blk b (pre ++ splice cells (i.toNat * Rep.es α) u.cells.toList ++ post) :: repsA (xs.set i.toNat y) (splice cells (i.toNat * Rep.es α) u.cells.toList) :: S2) ?_ ?_
  · refine Ent.cons _ ?_
    refine (Ent.swap _ _ _).trans ?_
    refine star_two (fun h _ _ a b => ?_) (fun l r => repsA_mono l r) (fun l r => Rep.mono r l)
    exact reps_set a b hi
  · have := ent_own (S := S2) (b := b) (cap := cap) (pre := pre) (post := post) (cells := splice cells (i.toNat * Rep.es α) u.cells.toList) (xs := xs.set i.toNat y) (by simpa using hc) rfl (by simpa using hpost)
    simpa using this

/-! ### appending -/
theorem cap_fits {need old eb : Nat} (h : old < need) (hb : 2 * need * eb ≤ 2 ^ 48) : ¬ Builtin.nextslicecap need old * eb > 2 ^ 48 := by
  have := Nat.mul_le_mul_right eb (nextslicecap_le h)
  omega
theorem grown_cap {need old e t : Nat} : need ≤ Question.cut (.appendCap need old e) t := by
  simp only [Question.cut]; omega

theorem repL_len {ez : List Value} (n : Nat) : (repL ez n).length = n * ez.length := by
  induction n with
  | zero => simp [repL]
  | succ n ih => simp only [repL, List.length_append, ih, Nat.succ_mul]; omega

theorem Hs.drawn {F : Asrt} {w0 w : World} {n : Nat} (h : Hs ro S F w0 w) : Hs ro S F w0 { w with drawn := n } := h
theorem Hs.pushb {F : Asrt} {w0 w : World} {l : List Value} {e : Nat} (h : Hs ro S F w0 w) : Hs ro (blk w.heap.size l :: S) F w0 { w with heap := w.heap.push (.cells ⟨l⟩ e) } := by
  have : Hs ro (one w.heap.size (· = .cells ⟨l⟩ e) :: S) F w0 { w with heap := w.heap.push (.cells ⟨l⟩ e) } := ⟨h.1, h.2.push _⟩
  exact this.ent one_blk

theorem app_core {α : Type} [Rep α] {es e eb : Nat} {ez : List Value} {v : Value} {xs ys : List α} {cs : List Value} {xb : Option Addr} {n xc : Nat} {F : Asrt} {w0 w : World} (hw : Hs ro (own v xs :: repsA ys cs :: S) F w0 w)
    (hc : cellsOfV (hof w) es n (.slice xb n xc) = some cs) (hn : n = ys.length) (he : es = Rep.es α) (hz : ez.length = es ∧ 0 < es ∧ 0 < eb) (hfit : 2 * (xs.length + ys.length) * eb ≤ 2 ^ 48) :
    ∃ v' w', (Hv.app e es eb ez v (.slice xb n xc)).run w = some (v', w') ∧ Hs ro (own v' (xs ++ ys) :: S) F w0 w' := by
  subst he hn
  obtain ⟨hz1, hz2, hz3⟩ := hz
  have hcl : cs.length = ys.length * Rep.es α := by
    obtain ⟨_, _, ⟨_, _, _, ⟨_, _, r, _⟩, _⟩, _⟩ := hw
    exact reps_len r
  have hco : cs.all Value.oneCell' = true := by
    obtain ⟨_, _, ⟨_, _, _, ⟨_, _, r, _⟩, _⟩, _⟩ := hw
    exact reps_oc r
  -- a new block
  have grow : ∀ {base sCap cells}, v = .slice base xs.length sCap → sCap < xs.length + ys.length → cellsOfV (hof w) (Rep.es α) xs.length v = some cells → Hs ro (repsA xs cells :: repsA ys cs :: S) F w0 w →
      ∃ v' w', (Hv.app e (Rep.es α) eb ez v (.slice xb ys.length xc)).run w = some (v', w') ∧ Hs ro (own v' (xs ++ ys) :: S) F w0 w' := by
    intro base sCap cells hv hlt hcv h
    subst hv
    have hcap' : xs.length + ys.length ≤ Question.cut (.appendCap (xs.length + ys.length) sCap e) (w.tape w.drawn (.appendCap (xs.length + ys.length) sCap e)) := grown_cap
    generalize hcap : Question.cut (.appendCap (xs.length + ys.length) sCap e) (w.tape w.drawn (.appendCap (xs.length + ys.length) sCap e)) = cap at hcap'
    refine ⟨.slice (some ⟨w.heap.size, 0, none⟩) (xs.length + ys.length) cap, { w with heap := w.heap.push (.cells ⟨cells ++ cs ++ repL ez (cap - (xs.length + ys.length))⟩ e), drawn := w.drawn + 1 }, ?_, ?_⟩
    · simp only [Hv.run]
      rw [if_pos ⟨hz1, hz2, hz3⟩, if_neg (by omega), if_neg (cap_fits hlt (by simpa using hfit)), hcv, hc, hcap]
    · skip
      have h2 := Hs.drawn (n := w.drawn + 1) (Hs.pushb (l := cells ++ cs ++ repL ez (cap - (xs.length + ys.length))) (e := e) h)
      refine h2.ent ?_
      refine (Ent.cons _ (ent_reps2 (zs := xs ++ ys) (f := cells ++ cs) fun h a b => reps_app.2 ⟨_, _, rfl, a, b⟩)).trans ?_
      have := ent_own (S := S) (b := w.heap.size) (off := 0) (cap := cap) (pre := []) (cells := cells ++ cs) (post := repL ez (cap - (xs.length + ys.length))) (xs := xs ++ ys) (by simpa using hcap') rfl (by rw [repL_len, hz1]; simp)
      simpa using this
  rcases hw.own_open with ⟨rfl, rfl, h⟩ | ⟨b, off, cap, pre, post, cells, rfl, hcap, hpre, hpost, hlen, h⟩
  · by_cases h0 : ys.length = 0
    · have : ys = [] := List.length_eq_zero_iff.1 h0
      subst this
      refine ⟨.slice none 0 0, w, ?_, ?_⟩
      · simp only [Hv.run]
        rw [if_pos ⟨hz1, hz2, hz3⟩, if_pos (by simp), hc]
        simp
      · exact (h.ent (Ent.drop _ _)).ent ent_ownNil
    · exact grow (base := none) (sCap := 0) (cells := []) rfl (by simp; omega) rfl (h.ent (ent_triv rfl))
  · by_cases hf : xs.length + ys.length ≤ cap
    · -- there is room
      by_cases h0 : cs = []
      · have hy0 : ys.length = 0 := by
          rw [h0] at hcl
          have := Rep.pos (α := α)
          rcases Nat.mul_eq_zero.1 hcl.symm with h | h <;> omega
        have : ys = [] := List.length_eq_zero_iff.1 hy0
        subst this
        refine ⟨.slice (some ⟨b, off, none⟩) xs.length cap, w, ?_, ?_⟩
        · simp only [Hv.run]
          rw [if_pos ⟨hz1, hz2, hz3⟩, if_pos hf, hc]
          simp [h0]
        · rw [List.append_nil]
          exact (h.ent (ent_own (S := repsA ([] : List α) cs :: S) hcap hpre hpost)).ent (Ent.cons _ (Ent.drop _ _))
      · have hbt : b < w.heap.size := by
          obtain ⟨o, ho, _⟩ := h.2.get
          exact (Array.getElem?_eq_some_iff.1 ho).1
        obtain ⟨o, eo, ⟨t, fz, rfl, hfz⟩, up⟩ := hs_upd (.hd) h
        have hmul : ys.length * Rep.es α ≤ (cap - xs.length) * Rep.es α := Nat.mul_le_mul_right _ (by omega)
        refine ⟨.slice (some ⟨b, off, none⟩) (xs.length + ys.length) cap, _, ?_, (up _ _ (isBlk_splice (off := off + xs.length * Rep.es α) (xs := cs) (e := t) hfz (by simp; omega))).ent ?_⟩
        · simp only [Hv.run]
          rw [if_pos ⟨hz1, hz2, hz3⟩, if_pos hf, hc]
          simp only [h0, if_false]
          rw [Addr.add_eq, wr_blk eo hfz (by simp; omega) hco]
          rfl
        · refine (Ent.cons _ (ent_reps2 (zs := xs ++ ys) (f := cells ++ cs) fun h a b => reps_app.2 ⟨_, _, rfl, a, b⟩)).trans ?_
          have hsp : splice (pre ++ cells ++ post) (off + xs.length * Rep.es α) cs = pre ++ (cells ++ cs) ++ post.drop cs.length := by
            subst hpre
            unfold splice
            rw [show pre ++ cells ++ post = (pre ++ cells) ++ post from rfl, show pre.length + xs.length * Rep.es α = (pre ++ cells).length + 0 from by simp [hlen], List.take_length_add_append]
            rw [show (pre ++ cells).length + 0 + cs.length = (pre ++ cells).length + cs.length from by omega, List.drop_length_add_append]
            simp
          have hsub : (cap - (xs ++ ys).length) * Rep.es α ≤ (post.drop cs.length).length := by
            rw [List.length_append, List.length_drop, hcl, show cap - (xs.length + ys.length) = (cap - xs.length) - ys.length from by omega, Nat.sub_mul]
            omega
          have := ent_own (S := S) (b := b) (off := off) (cap := cap) (pre := pre) (cells := cells ++ cs) (post := post.drop cs.length) (xs := xs ++ ys) (by simpa using hf) hpre hsub
          simp only [List.length_append] at this
          rw [hsp]
          exact this
    · refine grow (base := some ⟨b, off, none⟩) (sCap := cap) (cells := cells) rfl (by omega) ?_ (h.ent (Ent.drop _ _))
      obtain ⟨o, ho, po⟩ := h.2.get
      simp only [cellsOfV]
      rw [rdN_blk ho po.r (by simp; omega)]
      subst hpre
      have := take_drop_mid (pre := pre) (cells := cells) (post := post) (i := 0) (m := cells.length) (by omega)
      simp only [Nat.add_zero, List.drop_zero, List.take_length] at this
      rw [← hlen, this]

theorem W_appS {es e eb : Nat} {ez : List Value} {v v2 : Value} {xs ys : List α} {S1 : List Asrt} {k : Value → Tr} (pk : Pick S (own v xs) S1) (m : SeeS false ro S1 v2 ys) (he : es = Rep.es α) (hz : ez.length = es ∧ 0 < es ∧ 0 < eb) (hfit : 2 * (xs.length + ys.length) * eb ≤ 2 ^ 48)
    (x : ∀ v', WT P hb (k v') d ro (own v' (xs ++ ys) :: S1) R Ev) : WT P hb (.hv (.app e es eb ez v v2) k) d ro S R Ev := by
  refine W_ent pk.ent ?_
  have m' : SeeS false ro (own v xs :: S1) v2 ys := let ⟨A, a, i⟩ := m; ⟨A, a.cons, i⟩
  have fin : ∀ {S' : List Asrt} {xb : Option Addr} {xc : Nat} {cs : List Value}, v2 = .slice xb ys.length xc → Ent S' (own v xs :: S1) → (∀ F w0 w, Hs ro S' F w0 w → Hs ro (repsA ys cs :: S') F w0 w ∧ cellsOfV (hof w) es ys.length (.slice xb ys.length xc) = some cs) →
      WT P hb (.hv (.app e es eb ez v v2) k) d ro S' R Ev := by
    rintro S' xb xc cs rfl e' hcs F w0 w hs
    obtain ⟨h1, h2⟩ := hcs F w0 w hs
    have h3 : Hs ro (own v xs :: repsA ys cs :: S1) F w0 w := h1.ent ((Ent.cons _ e').trans (Ent.swap _ _ _))
    obtain ⟨v', w', r, h⟩ := app_core (e := e) h3 h2 rfl he hz hfit
    exact ⟨v', w', _, r, h, x v'⟩
  refine W_lookS m' ?_ ?_
  · rintro a c rfl rfl
    refine fin (cs := []) (S' := own v xs :: S1) rfl (Ent.refl _) fun F w0 w hs => ⟨hs.ent (ent_triv rfl), cellsOfV_nil⟩
  · rintro b off cap pre cells post S' A' rfl hc hpre hlen e' mA hA see
    refine fin (cs := cells) rfl e' fun F w0 w hs => ?_
    have hp : ∃ F, Holds ro (S' ++ [F]) w := ⟨F, hs.2⟩
    obtain ⟨o, ho, po⟩ := see S' mA w (by simpa using hp)
    constructor
    · rcases mA with ⟨g, a, l⟩ | ⟨_, mA⟩
      · exact ⟨hs.1, Holds.kn ⟨g, hA g a, l⟩ (repsA_dup _ _) hs.2⟩
      · obtain ⟨S2, pk2⟩ := mA.pick
        refine hs.ent ?_
        refine pk2.ent.trans (Ent.trans (S' := repsA ys cells :: A' :: S2) ?_ (Ent.cons _ (Ent.perm pk2.perm.symm)))
        rintro hh ⟨h1, h2, ah, s, dj, l1, l2⟩
        exact ⟨fzp h1, hun h1 h2, reps_dup (hA h1 ah), ⟨h1, h2, ah, s, dj, hle_un_l _ _, hle_un_r dj⟩, hdj_un (fzp_dj h1) (hdj_sym (hdj_le (hdj_sym dj) (fzp_le h1))), hle_trans (fzp_le h1) l1, hun_le l1 l2⟩
    · simp only [cellsOfV]
      subst he
      rw [rdN_blk ho po (by simp; omega), ← hlen]
      subst hpre
      have := take_drop_mid (pre := pre) (cells := cells) (post := post) (i := 0) (m := cells.length) (by omega)
      simp only [Nat.add_zero, List.drop_zero, List.take_length] at this
      rw [this]

/-- one more thing -/
theorem W_app1 {es e e' eb : Nat} {ez : List Value} {v u : Value} {xs : List α} {y : α} {S1 S2 : List Asrt} {k : Value → Tr} (pk : Pick S (own v xs) S1) (ey : Ent S1 (isA u y :: S2)) (he : es = Rep.es α) (hz : ez.length = es ∧ es ≤ 2 ^ 24 ∧ 0 < eb) (hfit : 2 * (xs.length + 1) * eb ≤ 2 ^ 48)
    (x : ∀ v', WT P hb (k v') d ro (own v' (xs ++ [y]) :: S2) R Ev) : WT P hb (.al (.bsl e' es 1 ez [(0, es, u)]) fun z => .hv (.app e es eb ez v z) k) d ro S R Ev := by
  refine W_ent (pk.ent.trans (Ent.cons _ ey)) ?_
  have hpos := Rep.pos (α := α)
  refine W_pure (p := u.cells.toList.length = es) (.tl .hd) (fun g a => he ▸ Rep.len a) ?_
  intro hul
  refine W_bsl (l := u.cells.toList) ?_ ⟨by omega, hz.1, by omega⟩ fun b => ?_
  · simp only [repL, List.append_nil, bldV]
    rw [if_pos ⟨hul, by omega⟩, splice, List.take_zero, List.drop_eq_nil_of_le (by omega)]
    simp
  · rintro F w0 w hs
    have hc : cellsOfV (hof w) es 1 (.slice (some ⟨b, 0, none⟩) 1 1) = some u.cells.toList := by
      obtain ⟨o, ho, po⟩ := hs.2.get
      simp only [cellsOfV]
      rw [rdN_blk ho po.r (by omega), List.drop_zero, List.take_of_length_le (by omega)]
    have h2 : Hs ro (own v xs :: repsA [y] u.cells.toList :: S2) F w0 w := hs.ent ((Ent.drop _ _).trans ((Ent.one (B := repsA [y] u.cells.toList) (fun _ h => isA_repsA h) _).trans (Ent.swap _ _ _)))
    obtain ⟨v', w', r, h⟩ := app_core (e := e) h2 hc rfl he ⟨hz.1, by omega, hz.2.2⟩ (by simpa using hfit)
    exact ⟨v', w', _, r, h, x v'⟩
end
end Go.Lb
