/- Rules for the judgement on trees: slices as lists of things. No statement of the seat is proved in this file. -/
import Derived.Test.YtkblnbbpeakgmaaGreatR
set_option linter.all false
namespace Go.Lb

/-! ### things as cells -/
class Rep (α : Type) where
  es : Nat
  pos : 0 < es
  rep : α → List Value → HP → Prop
  len : ∀ {x c h}, rep x c h → c.length = es
  oc : ∀ {x c h}, rep x c h → c.all Value.oneCell' = true
  mono : ∀ {x c h g}, rep x c h → hle h g → rep x c g
  dup : ∀ {x c h}, rep x c h → rep x c (fzp h)

class Enc (α : Type) where
  es : Nat
  pos : 0 < es
  enc : α → List Value
  len : ∀ x, (enc x).length = es
  oc : ∀ x, (enc x).all Value.oneCell' = true

class Sc (α : Type) where
  val : α → Value
  oc : ∀ x, (val x).oneCell' = true


def val {α : Type} [Sc α] (x : α) : Value := Sc.val x

instance {α : Type} [Sc α] : Enc α where
  es := 1
  pos := by decide
  enc x := [Sc.val x]
  len _ := rfl
  oc x := by simp [Sc.oc]
instance {α : Type} [Enc α] : Rep α where
  es := Enc.es α
  pos := Enc.pos
  rep x c _ := c = Enc.enc x
  len := fun {x _ _} e => by rw [e]; exact Enc.len x
  oc := fun {x _ _} e => by rw [e]; exact Enc.oc x
  mono := fun e _ => e
  dup := fun e => e

instance : Sc UInt8 := ⟨fun x => .int .u8 x.toNat, fun _ => rfl⟩
instance : Sc UInt32 := ⟨fun x => .int .u32 x.toNat, fun _ => rfl⟩
instance : Sc UInt64 := ⟨fun x => .int .u64 x.toNat, fun _ => rfl⟩
instance : Sc Int := ⟨fun x => .int .i64 x, fun _ => rfl⟩
instance : Sc Bool := ⟨fun x => .bool x, fun _ => rfl⟩

section
variable {α : Type} [Rep α]

def reps : List α → List Value → HP → Prop
  | [], c, _ => c = []
  | x :: xs, c, h => ∃ a b, c = a ++ b ∧ Rep.rep x a h ∧ reps xs b h

theorem reps_len {h : HP} : ∀ {xs : List α} {c : List Value}, reps xs c h → c.length = xs.length * Rep.es α
  | [], _, e => by cases e; simp
  | x :: xs, _, ⟨a, b, e, r, rs⟩ => by rw [e, List.length_append, Rep.len r, reps_len rs, List.length_cons, Nat.succ_mul, Nat.add_comm]
theorem reps_oc {h : HP} : ∀ {xs : List α} {c : List Value}, reps xs c h → c.all Value.oneCell' = true
  | [], _, e => by cases e; rfl
  | x :: xs, _, ⟨a, b, e, r, rs⟩ => by rw [e, List.all_append, Rep.oc r, reps_oc rs]; rfl
theorem reps_mono {h g : HP} (l : hle h g) : ∀ {xs : List α} {c : List Value}, reps xs c h → reps xs c g
  | [], _, e => e
  | x :: xs, _, ⟨a, b, e, r, rs⟩ => ⟨a, b, e, Rep.mono r l, reps_mono l rs⟩
theorem reps_dup {h : HP} : ∀ {xs : List α} {c : List Value}, reps xs c h → reps xs c (fzp h)
  | [], _, e => e
  | x :: xs, _, ⟨a, b, e, r, rs⟩ => ⟨a, b, e, Rep.dup r, reps_dup rs⟩
theorem reps_app {h : HP} : ∀ {xs ys : List α} {c : List Value}, reps (xs ++ ys) c h ↔ ∃ a b, c = a ++ b ∧ reps xs a h ∧ reps ys b h
  | [], ys, c => ⟨fun r => ⟨[], c, rfl, rfl, r⟩, fun ⟨a, b, e, ha, r⟩ => by cases ha; rw [e]; exact r⟩
  | x :: xs, ys, c => by
    simp only [List.cons_append, reps]
    constructor
    · rintro ⟨a, b, rfl, r, rs⟩
      obtain ⟨a', b', rfl, r1, r2⟩ := reps_app.1 rs
      exact ⟨a ++ a', b', by simp, ⟨a, a', rfl, r, r1⟩, r2⟩
    · rintro ⟨_, b, rfl, ⟨a, a', rfl, r, r1⟩, r2⟩
      exact ⟨a, a' ++ b, by simp, r, reps_app.2 ⟨_, _, rfl, r1, r2⟩⟩
theorem reps_one {h : HP} {x : α} {c : List Value} : reps [x] c h ↔ Rep.rep x c h := by
  simp [reps]
theorem reps_split {h : HP} {xs ys : List α} {c : List Value} (r : reps (xs ++ ys) c h) : reps xs (c.take (xs.length * Rep.es α)) h ∧ reps ys (c.drop (xs.length * Rep.es α)) h := by
  obtain ⟨a, b, rfl, r1, r2⟩ := reps_app.1 r
  have := reps_len r1
  rw [← this]
  simp [r1, r2]
theorem reps_take {h : HP} {xs : List α} {c : List Value} (k : Nat) (r : reps xs c h) (hk : k ≤ xs.length) : reps (xs.take k) (c.take (k * Rep.es α)) h := by
  rw [← List.take_append_drop k xs] at r
  have := (reps_split r).1
  rwa [List.length_take, Nat.min_eq_left hk] at this
theorem reps_drop {h : HP} {xs : List α} {c : List Value} (k : Nat) (r : reps xs c h) (hk : k ≤ xs.length) : reps (xs.drop k) (c.drop (k * Rep.es α)) h := by
  rw [← List.take_append_drop k xs] at r
  have := (reps_split r).2
  rwa [List.length_take, Nat.min_eq_left hk] at this
theorem reps_get {h : HP} {xs : List α} {c : List Value} {i : Nat} {x : α} (r : reps xs c h) (hi : xs[i]? = some x) : Rep.rep x ((c.drop (i * Rep.es α)).take (Rep.es α)) h := by
  obtain ⟨hlt, hx⟩ := List.getElem?_eq_some_iff.1 hi
  have r1 := reps_drop i r (by omega)
  rw [List.drop_eq_getElem_cons hlt, hx] at r1
  obtain ⟨a, b, e, ra, rb⟩ := r1
  rw [e]
  have := Rep.len ra
  rw [← this]
  simpa using ra
/-- some of them are laid over by others -/
theorem reps_splice {h : HP} {xs ys : List α} {c d : List Value} {i : Nat} (r : reps xs c h) (s : reps ys d h) (hi : i + ys.length ≤ xs.length) : reps (xs.take i ++ ys ++ xs.drop (i + ys.length)) (splice c (i * Rep.es α) d) h := by
  unfold splice
  refine reps_app.2 ⟨_, _, rfl, reps_app.2 ⟨_, _, rfl, reps_take i r (by omega), s⟩, ?_⟩
  rw [reps_len s, ← Nat.add_mul]
  exact reps_drop _ r hi
theorem reps_set {h : HP} {xs : List α} {c d : List Value} {i : Nat} {y : α} (r : reps xs c h) (s : Rep.rep y d h) (hi : i < xs.length) : reps (xs.set i y) (splice c (i * Rep.es α) d) h := by
  have := reps_splice (i := i) r (reps_one.2 s) (by simp; omega)
  rw [List.set_eq_take_append_cons_drop, if_pos hi]
  simpa using this

def repsA (xs : List α) (c : List Value) : Asrt := reps xs c
theorem repsA_dup (xs : List α) (c : List Value) : Dup (repsA xs c) := fun _ r => reps_dup r

/-- a slice that is owned; one that is frozen -/
def own (v : Value) (xs : List α) : Asrt := fun h => ∃ cells, reps xs cells h ∧ ((v = .slice none 0 0 ∧ xs = []) ∨ ∃ b off cap pre post, v = .slice (some ⟨b, off, none⟩) xs.length cap ∧ xs.length ≤ cap ∧ pre.length = off ∧ (cap - xs.length) * Rep.es α ≤ post.length ∧
  blk b (pre ++ cells ++ post) h)
def frz (v : Value) (xs : List α) : Asrt := fun h => ∃ cells, reps xs cells h ∧ ((v = .slice none 0 0 ∧ xs = []) ∨ ∃ b off cap pre post, v = .slice (some ⟨b, off, none⟩) xs.length cap ∧ xs.length ≤ cap ∧ pre.length = off ∧
  fzb b (pre ++ cells ++ post) h)
def seen (v : Value) (xs : List α) (h : HP) : Prop := ∃ cells, reps xs cells h ∧ (((∃ a cap, v = .slice a 0 cap) ∧ xs = []) ∨ ∃ b off cap pre post f o, v = .slice (some ⟨b, off, none⟩) xs.length cap ∧ xs.length ≤ cap ∧ pre.length = off ∧
  h b = some (f, o) ∧ isBlkR (pre ++ cells ++ post) o)

theorem own_seen {v : Value} {xs : List α} {h : HP} (o : own v xs h) : seen v xs h := by
  obtain ⟨c, r, e | ⟨b, off, cap, pre, post, e, h1, h2, h3, o, ho, po⟩⟩ := o
  · exact ⟨c, r, .inl ⟨⟨_, _, e.1⟩, e.2⟩⟩
  · exact ⟨c, r, .inr ⟨b, off, cap, pre, post, _, o, e, h1, h2, ho, po.r⟩⟩
theorem frz_seen {v : Value} {xs : List α} {h : HP} (o : frz v xs h) : seen v xs h := by
  obtain ⟨c, r, e | ⟨b, off, cap, pre, post, e, h1, h2, o, ho, po⟩⟩ := o
  · exact ⟨c, r, .inl ⟨⟨_, _, e.1⟩, e.2⟩⟩
  · exact ⟨c, r, .inr ⟨b, off, cap, pre, post, _, o, e, h1, h2, ho, po.r⟩⟩
theorem frz_dup (v : Value) (xs : List α) : Dup (frz v xs) := by
  rintro h ⟨c, r, e | ⟨b, off, cap, pre, post, e, h1, h2, o⟩⟩
  · exact ⟨c, reps_dup r, .inl e⟩
  · exact ⟨c, reps_dup r, .inr ⟨b, off, cap, pre, post, e, h1, h2, fzb_dup _ _ _ o⟩⟩
theorem frz_mono {v : Value} {xs : List α} {h g : HP} (l : hle h g) (o : frz v xs h) : frz v xs g := by
  obtain ⟨c, r, e | ⟨b, off, cap, pre, post, e, h1, h2, o, ho, po⟩⟩ := o
  · exact ⟨c, reps_mono l r, .inl e⟩
  · exact ⟨c, reps_mono l r, .inr ⟨b, off, cap, pre, post, e, h1, h2, o, l _ _ ho, po⟩⟩
theorem frz_oc {v : Value} {xs : List α} {h : HP} (o : frz v xs h) : v.oneCell' = true := by
  obtain ⟨c, r, ⟨rfl, _⟩ | ⟨b, off, cap, pre, post, rfl, _⟩⟩ := o <;> rfl
theorem own_oc {v : Value} {xs : List α} {h : HP} (o : own v xs h) : v.oneCell' = true := by
  obtain ⟨c, r, ⟨rfl, _⟩ | ⟨b, off, cap, pre, post, rfl, _⟩⟩ := o <;> rfl
end

instance {α : Type} [Rep α] : Rep (List α) where
  es := 1
  pos := by decide
  rep xs c h := ∃ v, c = [v] ∧ frz v xs h
  len := fun ⟨_, e, _⟩ => by rw [e]; rfl
  oc := fun ⟨_, e, o⟩ => by rw [e]; simp [frz_oc o]
  mono := fun ⟨v, e, o⟩ l => ⟨v, e, frz_mono l o⟩
  dup := fun ⟨v, e, o⟩ => ⟨v, e, frz_dup _ _ _ o⟩

section
variable {P : Program} {hb : Nat → Bool} {d : Bool} {ro : HP} {S : List Asrt} {R : Value → List Asrt → Prop} {Ev : Nat → List Value → List Asrt → Prop}

/-! ### of what is somewhere -/
theorem At.f {A : Asrt} (m : At d ro S A) : At false ro S A := m.imp id fun ⟨_, m⟩ => ⟨rfl, m⟩
theorem W_at {t : Tr} {p : Prop} {A : Asrt} (m : At false ro S A) (i : ∀ g, A g → p) (h : p → WT P hb t d ro S R Ev) : WT P hb t d ro S R Ev := by
  rcases m with ⟨g, a, _⟩ | ⟨_, m⟩
  · exact h (i g a)
  · obtain ⟨S', pk⟩ := m.pick
    exact W_pure pk i fun hp => WT.ent t (Ent.perm pk.perm.symm) (h hp)
theorem Holds.kn {A : Asrt} {S : List Asrt} {w : World} (k : Kn ro A) (a : Dup A) (h : Holds ro S w) : Holds ro (A :: S) w := by
  obtain ⟨g, ag, l⟩ := k
  obtain ⟨hh, s, dj, H, Hr⟩ := h
  have l' := hle_trans (fzp_le g) l
  have d1 : hdj (fzp g) hh := hdj_sym (hdj_le (hdj_sym dj) l')
  have d2 : hdj ro (fzp g) := fun b => by
    cases e : fzp g b with
    | none => exact .inr (.inl rfl)
    | some x =>
      have e' := l' b x e
      refine .inr (.inr ⟨e', ?_⟩)
      unfold fzp at e
      split at e
      · rename_i o _; cases e; exact ⟨o, e'⟩
      · cases e
  exact ⟨hun (fzp g) hh, ⟨_, _, a g ag, s, d1, hle_un_l _ _, hle_un_r d1⟩, hdj_un d2 dj, (Hr.le l').un H, Hr⟩
theorem W_dupAt {t : Tr} {A B : Asrt} (m : At d ro S A) (i : ∀ g, A g → B (fzp g)) (a : Dup B) (h : WT P hb t d ro (B :: S) R Ev) : WT P hb t d ro S R Ev := by
  have hk : ∀ {C : Asrt}, Dup C → Kn ro C → WT P hb t d ro (C :: S) R Ev → WT P hb t d ro S R Ev := fun a k h =>
    WT.cl t fun F w0 w hs => ⟨_, h, hs.1, (Holds.kn k a hs.2)⟩
  rcases m with ⟨g, ag, l⟩ | ⟨_, m⟩
  · exact hk a ⟨_, i g ag, hle_trans (fzp_le g) l⟩ h
  · obtain ⟨S', pk⟩ := m.pick
    refine WT.ent t (pk.ent.trans ?_) h
    refine Ent.trans (S' := B :: A :: S') ?_ (Ent.cons B (Ent.perm pk.perm.symm))
    rintro hh ⟨h1, h2, ah, s, dj, l1, l2⟩
    exact ⟨fzp h1, hun h1 h2, i _ ah, ⟨h1, h2, ah, s, dj, hle_un_l _ _, hle_un_r dj⟩, hdj_un (fzp_dj h1) (hdj_sym (hdj_le (hdj_sym dj) (fzp_le h1))), hle_trans (fzp_le h1) l1, hun_le l1 l2⟩
theorem W_kn {t : Tr} {A : Asrt} (k : Kn ro A) (a : Dup A) (h : WT P hb t d ro (A :: S) R Ev) : WT P hb t d ro S R Ev := W_dupAt (At.kn k) (fun g ag => a g ag) a h

variable {α : Type} {rα : Rep α}

/-- a slice is seen to be xs -/
def SeeS {α : Type} [Rep α] (d : Bool) (ro : HP) (S : List Asrt) (v : Value) (xs : List α) : Prop := ∃ A, At d ro S A ∧ ∀ g, A g → seen v xs g
theorem SeeS.own {v : Value} {xs : List α} (m : At d ro S (own v xs)) : SeeS d ro S v xs := ⟨_, m, fun _ => own_seen⟩
theorem SeeS.frz {v : Value} {xs : List α} (m : At d ro S (frz v xs)) : SeeS d ro S v xs := ⟨_, m, fun _ => frz_seen⟩

theorem SeeS.of {v : Value} {xs : List α} {A : Asrt} (m : At d ro S A) (i : ∀ g, A g → seen v xs g) : SeeS d ro S v xs := ⟨_, m, i⟩

def shape (v : Value) (n : Nat) : Prop := ((∃ a cap, v = .slice a 0 cap) ∧ n = 0) ∨ ∃ b off cap, v = .slice (some ⟨b, off, none⟩) n cap ∧ n ≤ cap
theorem seen_shape {v : Value} {xs : List α} {g : HP} (s : seen v xs g) : shape v xs.length := by
  obtain ⟨c, r, ⟨e, rfl⟩ | ⟨b, off, cap, pre, post, f, o, e, h1, _⟩⟩ := s
  · exact .inl ⟨e, rfl⟩
  · exact .inr ⟨b, off, cap, e, h1⟩
theorem SeeS.f {v : Value} {xs : List α} (m : SeeS d ro S v xs) : SeeS false ro S v xs := let ⟨A, a, i⟩ := m; ⟨A, a.f, i⟩
theorem W_shape {t : Tr} {v : Value} {xs : List α} (m : SeeS false ro S v xs) (h : shape v xs.length → WT P hb t d ro S R Ev) : WT P hb t d ro S R Ev :=
  let ⟨_, m, i⟩ := m; W_at m (fun g a => seen_shape (i g a)) h

theorem W_len {v : Value} {xs : List α} {k : Value → Tr} (m : SeeS false ro S v xs) (x : WT P hb (k (.int .i64 xs.length)) d ro S R Ev) : WT P hb (.pu (.len v) k) d ro S R Ev := by
  refine W_shape m ?_
  rintro (⟨⟨_, _, rfl⟩, e⟩ | ⟨b, off, cap, rfl, _⟩)
  · rw [e] at x
    exact W_pu rfl x
  · exact W_pu rfl x

/-- what is seen of a slice's cells, through a heap -/
theorem seen_rd {b off cap n : Nat} {xs : List α} {g : HP} {w : World} (s : seen (.slice (some ⟨b, off, none⟩) n cap) xs g) (H : Has g w) : n = xs.length ∧ ∃ cells, reps xs cells g ∧ ∀ i m, i + m ≤ cells.length → rdN (hof w) ⟨b, off + i, none⟩ m = some ((cells.drop i).take m) := by
  obtain ⟨c, r, ⟨⟨_, _, e⟩, rfl⟩ | ⟨b', off', cap', pre, post, f, o, e, h1, h2, h3, h4⟩⟩ := s
  · cases e
    refine ⟨rfl, c, r, fun i m hi => ?_⟩
    have := reps_len r
    simp only [List.length_nil, Nat.zero_mul] at this
    have hm : m = 0 := by omega
    subst hm
    simp [rdN]
  · cases e
    refine ⟨rfl, c, r, fun i m hi => ?_⟩
    rw [rdN_blk (H _ _ _ h3) h4 (by simp; omega)]
    rw [List.append_assoc, ← h2]
    congr 1
    rw [List.drop_append, List.drop_eq_nil_of_le (by omega), List.nil_append, Nat.add_sub_cancel_left, List.drop_append_of_le_length (by omega), List.take_append_of_le_length (by simp; omega)]

theorem At.cons {A B : Asrt} (m : At d ro S A) : At d ro (B :: S) A := m.imp id fun ⟨e, m⟩ => ⟨e, .tl m⟩
/-- to look at a block of what is somewhere -/
theorem W_look {d' : Bool} {t : Tr} {A : Asrt} {b : Nat} (m : At d' ro S A) (i : ∀ g, A g → ∃ x, g b = some x)
    (h : ∀ f o S' A', At d' ro S' A' → (∀ g, A' g → A g ∧ g b = some (f, o)) → Ent S' S → (∃ g, A' g) → WT P hb t d ro S' R Ev) : WT P hb t d ro S R Ev := by
  rcases m with ⟨g, a, l⟩ | ⟨e, m⟩
  · obtain ⟨⟨f, o⟩, hx⟩ := i g a
    exact h f o S (fun g => A g ∧ g b = some (f, o)) (At.kn ⟨g, ⟨a, hx⟩, l⟩) (fun _ h => h) (Ent.refl _) ⟨g, a, hx⟩
  · obtain ⟨S1, pk⟩ := m.pick
    refine WT.ent t pk.ent (WT.cl t ?_)
    rintro F w0 w ⟨sm, hh, ⟨h1, h2, a, s, r⟩, k⟩
    obtain ⟨⟨f, o⟩, hx⟩ := i h1 a
    refine ⟨(fun g => A g ∧ g b = some (f, o)) :: S1, h f o _ (fun g => A g ∧ g b = some (f, o)) (.inr ⟨e, .hd⟩) (fun _ h => h) ?_ ⟨h1, a, hx⟩, sm, hh, ⟨h1, h2, ⟨a, hx⟩, s, r⟩, k⟩
    exact (Ent.one (fun _ h => h.1) S1).trans (Ent.perm pk.perm.symm)

theorem seen_cells {b off cap n : Nat} {xs : List α} {g : HP} {f : Bool} {o : Obj} (hxs : xs ≠ []) (s : seen (.slice (some ⟨b, off, none⟩) n cap) xs g) (ho : g b = some (f, o)) : n = xs.length ∧ n ≤ cap ∧ ∃ cells pre post, reps xs cells g ∧ pre.length = off ∧ isBlkR (pre ++ cells ++ post) o := by
  obtain ⟨c, r, ⟨_, e⟩ | ⟨b', off', cap', pre, post, f, o', e, h1, h2, h3, h4⟩⟩ := s
  · exact absurd e hxs
  · cases e
    rw [ho] at h3
    cases h3
    exact ⟨rfl, h1, c, pre, post, r, h2, h4⟩
theorem isBlkR_inj {l l' : List Value} {o : Obj} (h : isBlkR l o) (h' : isBlkR l' o) : l = l' := by
  obtain ⟨e, z, rfl⟩ := h
  obtain ⟨e', z', h⟩ := h'
  cases h
  rfl

/-- to look at a slice's cells -/
theorem W_lookS {d' : Bool} {t : Tr} {v : Value} {xs : List α} (m : SeeS d' ro S v xs) (h0 : ∀ a c, v = .slice a 0 c → xs = [] → WT P hb t d ro S R Ev)
    (h : ∀ b off cap pre cells post S' A', v = .slice (some ⟨b, off, none⟩) xs.length cap → xs.length ≤ cap → pre.length = off → cells.length = xs.length * Rep.es α → Ent S' S → At d' ro S' A' → (∀ g, A' g → reps xs cells g) →
      (∀ S'', At d' ro S'' A' → See d' ro S'' b (pre ++ cells ++ post)) → WT P hb t d ro S' R Ev) : WT P hb t d ro S R Ev := by
  refine W_shape m.f ?_
  rintro (⟨⟨a, c, rfl⟩, e⟩ | ⟨b, off, cap, rfl, hc⟩)
  · exact h0 _ _ rfl (List.length_eq_zero_iff.1 e)
  by_cases hxs : xs = []
  · exact h0 (some ⟨b, off, none⟩) cap (by rw [hxs]; rfl) hxs
  obtain ⟨A, m, im⟩ := m
  refine W_look (b := b) m (fun g a => ?_) ?_
  · obtain ⟨c, r, ⟨_, e⟩ | ⟨b', off', cap', pre, post, f, o', e, h1, h2, h3, h4⟩⟩ := im g a
    · exact absurd e hxs
    · cases e; exact ⟨_, h3⟩
  intro f o S' A' mA hA e ⟨g0, a0⟩
  obtain ⟨_, _, cells, pre, post, r0, hpre, hblk⟩ := seen_cells hxs (im g0 (hA g0 a0).1) (hA g0 a0).2
  refine h b off cap pre cells post S' A' rfl hc hpre (reps_len r0) e mA ?_ ?_
  · intro g ag
    obtain ⟨_, _, cells', pre', post', r', hpre', hblk'⟩ := seen_cells hxs (im g (hA g ag).1) (hA g ag).2
    have he := isBlkR_inj hblk hblk'
    rw [List.append_assoc, List.append_assoc] at he
    have h1 := List.append_inj he (by omega)
    have h2 := List.append_inj h1.2 (by rw [reps_len r0, reps_len r'])
    rw [h2.1]; exact r'
  · intro S'' mm w hw
    obtain ⟨g, ag, Hg⟩ := mm.holds hw
    exact ⟨o, Hg _ _ _ (hA g ag).2, hblk⟩

theorem take_drop_mid {pre cells post : List Value} {i m : Nat} (h : i + m ≤ cells.length) : ((pre ++ cells ++ post).drop (pre.length + i)).take m = (cells.drop i).take m := by
  rw [List.append_assoc, List.drop_append, List.drop_eq_nil_of_le (by omega), List.nil_append, Nat.add_sub_cancel_left, List.drop_append_of_le_length (by omega), List.take_append_of_le_length (by simp; omega)]

theorem mul_le' {a b c : Nat} (h : a < b) : a * c + c ≤ b * c := by
  rw [← Nat.succ_mul]; exact Nat.mul_le_mul_right c h

/-- a thing's cells are to be had -/
theorem W_ixC {es : Nat} {v : Value} {xs : List α} {q : IntKind} {i : Int} {x : α} {k : Value → Tr} (m : SeeS d ro S v xs) (he : es = Rep.es α) (h : 0 ≤ i) (hx : xs[i.toNat]? = some x)
    (y : ∀ b off l c S', (l.drop off).take es = c → off + es ≤ l.length → c.length = es → See d ro (repsA [x] c :: S') b l → Ent S' S → WT P hb (k (.pointer (some ⟨b, off, none⟩))) d ro (repsA [x] c :: S') R Ev) :
    WT P hb (.pu (.iad es v (.int q i)) k) d ro S R Ev := by
  subst he
  obtain ⟨hlt, _⟩ := List.getElem?_eq_some_iff.1 hx
  have hle := mul_le' (c := Rep.es α) hlt
  refine W_lookS m (fun _ _ _ e => ?_) ?_
  · subst e; cases hx
  intro b off cap pre cells post S' A' rfl hc hpre hlen e mA hA see
  refine W_pu (v := .pointer (some ⟨b, off + i.toNat * Rep.es α, none⟩)) ?_ ?_
  · simp only [Pu.ev]
    rw [if_pos ⟨h, by omega⟩, Addr.add_eq]
  have hcl : ((cells.drop (i.toNat * Rep.es α)).take (Rep.es α)).length = Rep.es α := by simp; omega
  refine W_dupAt (B := repsA [x] ((cells.drop (i.toNat * Rep.es α)).take (Rep.es α))) mA (fun g ag => reps_dup (reps_one.2 (reps_get (hA g ag) hx))) (repsA_dup _ _) ?_
  refine y b _ (pre ++ cells ++ post) _ S' ?_ (by simp; omega) hcl (see _ mA.cons) e
  rw [← hpre]
  exact take_drop_mid (by omega)

theorem W_ixN {es : Nat} {v : Value} {xs : List α} {q : IntKind} {i : Int} {x : α} {k : Value → Tr} (m : SeeS d ro S v xs) (he : es = Rep.es α) (h : 0 ≤ i) (hx : xs[i.toNat]? = some x)
    (y : ∀ c, c.length = es → WT P hb (k (.agg ⟨c⟩)) d ro (repsA [x] c :: S) R Ev) : WT P hb (.pu (.iad es v (.int q i)) fun z => .rd (.ld true es z) k) d ro S R Ev := by
  refine W_ixC m he h hx fun b off l c S' hc hn hcl see e => ?_
  refine W_ldN see (by omega) ?_
  rw [hc]
  exact WT.ent _ (Ent.cons _ e) (y c hcl)
theorem W_ix1 {v : Value} {xs : List α} {q : IntKind} {i : Int} {x : α} {k : Value → Tr} (m : SeeS d ro S v xs) (he : 1 = Rep.es α) (h : 0 ≤ i) (hx : xs[i.toNat]? = some x)
    (y : ∀ u, WT P hb (k u) d ro (repsA [x] [u] :: S) R Ev) : WT P hb (.pu (.iad 1 v (.int q i)) fun z => .rd (.ld false 1 z) k) d ro S R Ev := by
  refine W_ixC m he h hx fun b off l c S' hc hn hcl see e => ?_
  obtain ⟨u, rfl⟩ := List.length_eq_one_iff.1 hcl
  refine W_ld (v := u) see ?_ (WT.ent _ (Ent.cons _ e) (y u))
  have := congrArg (fun l => l[0]?) hc
  simpa using this
theorem W_ixFld {es f : Nat} {v : Value} {xs : List α} {q : IntKind} {i : Int} {x : α} {k : Value → Tr} (m : SeeS d ro S v xs) (he : es = Rep.es α) (h : 0 ≤ i) (hx : xs[i.toNat]? = some x) (hf : f < es)
    (y : ∀ c u, c.length = es → c[f]? = some u → WT P hb (k u) d ro (repsA [x] c :: S) R Ev) : WT P hb (.pu (.iad es v (.int q i)) fun z => .pu (.fad f z) fun z => .rd (.ld false 1 z) k) d ro S R Ev := by
  refine W_ixC m he h hx fun b off l c S' hc hn hcl see e => ?_
  obtain ⟨u, hu⟩ : ∃ u, c[f]? = some u := ⟨_, List.getElem?_eq_getElem (by omega)⟩
  refine W_fad (W_ld (v := u) see ?_ (WT.ent _ (Ent.cons _ e) (y c u hcl hu)))
  have := congrArg (fun l => l[f]?) hc
  rw [hu] at this
  simpa [List.getElem?_take, hf] using this
theorem W_ixFldN {es f n : Nat} {v : Value} {xs : List α} {q : IntKind} {i : Int} {x : α} {k : Value → Tr} (m : SeeS d ro S v xs) (he : es = Rep.es α) (h : 0 ≤ i) (hx : xs[i.toNat]? = some x) (hf : f + n ≤ es)
    (y : ∀ c, c.length = es → WT P hb (k (.agg ⟨(c.drop f).take n⟩)) d ro (repsA [x] c :: S) R Ev) : WT P hb (.pu (.iad es v (.int q i)) fun z => .pu (.fad f z) fun z => .rd (.ld true n z) k) d ro S R Ev := by
  refine W_ixC m he h hx fun b off l c S' hc hn hcl see e => ?_
  refine W_fad (W_ldN see (by omega) ?_)
  have : (l.drop (off + f)).take n = (c.drop f).take n := by
    rw [← hc, List.drop_take, List.drop_drop, List.take_take, Nat.min_eq_left (by omega)]
  rw [this]
  exact WT.ent _ (Ent.cons _ e) (y c hcl)

theorem bndV_none (y d : Nat) : bndV none y d = some d := rfl
/-! ### slicing what is frozen -/
theorem W_slcF {es : Nat} {v : Value} {xs : List α} {lo hi : Option Value} {a c : Nat} {k : Value → Tr} (m : Mem (frz v xs) S) (he : es = Rep.es α) (h1 : ∀ cap, xs.length ≤ cap → bndV hi cap xs.length = some c) (h2 : bndV lo c 0 = some a) (hc : c ≤ xs.length) (hac : a ≤ c)
    (x : ∀ u, WT P hb (k u) d ro (frz u ((xs.take c).drop a) :: S) R Ev) : WT P hb (.pu (.slc es v lo hi none) k) d ro S R Ev := by
  subst he
  obtain ⟨S1, pk⟩ := m.pick
  have hxl : ((xs.take c).drop a).length = c - a := by simp; omega
  refine W_dup pk (frz_dup _ _) ?_
  refine W_exA (X := fun cells h => reps xs cells h ∧ ((v = .slice none 0 0 ∧ xs = []) ∨ ∃ b off cap pre post, v = .slice (some ⟨b, off, none⟩) xs.length cap ∧ xs.length ≤ cap ∧ pre.length = off ∧ fzb b (pre ++ cells ++ post) h)) fun cells => ?_
  refine W_pure .hd (p := ((v = .slice none 0 0 ∧ xs = []) ∨ ∃ (b off cap : Nat) (pre post : List Value), v = .slice (some ⟨b, off, none⟩) xs.length cap ∧ xs.length ≤ cap ∧ pre.length = off)) ?_ ?_
  · rintro g ⟨_, e | ⟨b, off, cap, pre, post, h1, h2, h3, _⟩⟩
    · exact .inl e
    · exact .inr ⟨b, off, cap, pre, post, h1, h2, h3⟩
  rintro (⟨rfl, rfl⟩ | ⟨b, off, cap, _, _, rfl, hcap, _⟩)
  · have hc0 : c = 0 := by simpa using hc
    subst hc0
    have ha0 : a = 0 := by omega
    subst ha0
    refine W_pu (v := .slice none 0 0) ?_ (W_conv .hd (B := frz (.slice none 0 0) ([] : List α)) (fun g _ => ⟨[], rfl, .inl ⟨rfl, rfl⟩⟩) (by simpa using x (.slice none 0 0)))
    have := h1 0 (by simp)
    simp only [List.length_nil] at this
    simp [Pu.ev, slcV, bndV_none, this, h2]
  · refine W_pu (v := .slice (some ⟨b, if cap = a then off else off + a * Rep.es α, none⟩) (c - a) (cap - a)) ?_ (W_conv .hd ?_ (x _))
    · have := h1 cap hcap
      simp only [Pu.ev, slcV, bndV_none, this, h2, Option.isSome_none, Bool.and_false, Bool.false_eq_true, if_false]
      split <;> simp [Addr.add_eq]
    · rintro g ⟨r, ⟨e, _⟩ | ⟨b', off', cap', pre, post, e, _, hp, o⟩⟩
      · cases e
      cases e
      have hl := reps_len r
      have r2 : reps ((xs.take c).drop a) ((cells.take (c * Rep.es α)).drop (a * Rep.es α)) g := by
        refine reps_drop a (reps_take c r hc) (by simp; omega)
      have hca : a * Rep.es α ≤ c * Rep.es α := Nat.mul_le_mul_right _ hac
      have hcx : c * Rep.es α ≤ xs.length * Rep.es α := Nat.mul_le_mul_right _ hc
      refine ⟨_, r2, .inr ⟨b, _, cap - a, if cap = a then pre else pre ++ cells.take (a * Rep.es α), if cap = a then cells ++ post else cells.drop (c * Rep.es α) ++ post, by rw [hxl], by rw [hxl]; omega, ?_, ?_⟩⟩
      · split
        · exact hp
        · simp; omega
      · split
        · rename_i hca'
          have : (cells.take (c * Rep.es α)).drop (a * Rep.es α) = [] := by
            apply List.drop_eq_nil_of_le
            simp
            have : c = a := by omega
            subst this
            exact Nat.min_le_left _ _
          rw [this, List.append_nil, ← List.append_assoc]
          exact o
        · have e2 : pre ++ cells.take (a * Rep.es α) ++ (cells.take (c * Rep.es α)).drop (a * Rep.es α) ++ (cells.drop (c * Rep.es α) ++ post) = pre ++ cells ++ post := by
            have h3 : cells.take (a * Rep.es α) ++ (cells.take (c * Rep.es α)).drop (a * Rep.es α) = cells.take (c * Rep.es α) := by
              have := List.take_append_drop (a * Rep.es α) (cells.take (c * Rep.es α))
              rwa [List.take_take, Nat.min_eq_left hca] at this
            rw [List.append_assoc pre, h3]
            simp only [List.append_assoc]
            rw [← List.append_assoc (cells.take _), List.take_append_drop]
          rw [e2]
          exact o

/-! ### owning -/
theorem Hs.own_open {v : Value} {xs : List α} {F : Asrt} {w0 w : World} (h : Hs ro (own v xs :: S) F w0 w) :
    (v = .slice none 0 0 ∧ xs = [] ∧ Hs ro S F w0 w) ∨ ∃ b off cap pre post cells, v = .slice (some ⟨b, off, none⟩) xs.length cap ∧ xs.length ≤ cap ∧ pre.length = off ∧ (cap - xs.length) * Rep.es α ≤ post.length ∧ cells.length = xs.length * Rep.es α ∧
      Hs ro (blk b (pre ++ cells ++ post) :: repsA xs cells :: S) F w0 w := by
  obtain ⟨sm, hh, ⟨h1, h2, ⟨cells, r, c⟩, s, dj, l1, l2⟩, k⟩ := h
  rcases c with ⟨e1, e2⟩ | ⟨b, off, cap, pre, post, e, hc, hp, hq, o⟩
  · exact .inl ⟨e1, e2, sm, hh, big_mono l2 s, k⟩
  · refine .inr ⟨b, off, cap, pre, post, cells, e, hc, hp, hq, reps_len r, sm, hh, ?_, k⟩
    exact ⟨h1, hun (fzp h1) h2, o, ⟨fzp h1, h2, reps_dup r, s, hdj_sym (hdj_le (hdj_sym dj) (fzp_le h1)), hle_un_l _ _, hle_un_r (hdj_sym (hdj_le (hdj_sym dj) (fzp_le h1)))⟩, hdj_un (hdj_sym (fzp_dj h1)) dj, l1, hun_le (hle_trans (fzp_le h1) l1) l2⟩
theorem ent_own {α : Type} [Rep α] {b off cap : Nat} {pre post cells : List Value} {xs : List α} {S : List Asrt} (hc : xs.length ≤ cap) (hp : pre.length = off) (hq : (cap - xs.length) * Rep.es α ≤ post.length) :
    Ent (blk b (pre ++ cells ++ post) :: repsA xs cells :: S) (own (.slice (some ⟨b, off, none⟩) xs.length cap) xs :: S) := by
  rintro h ⟨h1, h2, o, ⟨h3, h4, r, s, d', l3, l4⟩, d, l1, l2⟩
  have d13 := hdj_le d l3
  have d14 := hdj_le d l4
  refine ⟨hun h1 h3, h4, ⟨cells, reps_mono (hle_un_r d13) r, .inr ⟨b, off, cap, pre, post, rfl, hc, hp, hq, ?_⟩⟩, s, hdj_sym (hdj_un (hdj_sym d14) (hdj_sym d')), hun_le l1 (hle_trans l3 l2), hle_trans l4 l2⟩
  obtain ⟨ob, e, p⟩ := o
  exact ⟨ob, hle_un_l _ _ _ _ e, p⟩
theorem ent_ownNil {α : Type} [Rep α] : Ent S (own (.slice none 0 0) ([] : List α) :: S) := fun h s => ⟨fun _ => none, h, ⟨[], rfl, .inl ⟨rfl, rfl⟩⟩, s, hdj_sym (hdj_none _), fun _ _ e => (by cases e), hle_refl _⟩
theorem ent_ownNil' {α : Type} [Rep α] {v : Value} {xs : List α} (hv : v = .slice none 0 0) (hx : xs = []) : Ent S (own v xs :: S) := by subst hv hx; exact ent_ownNil
theorem ent_frzNil {α : Type} [Rep α] : Ent S (frz (.slice none 0 0) ([] : List α) :: S) := fun h s => ⟨fun _ => none, h, ⟨[], rfl, .inl ⟨rfl, rfl⟩⟩, s, hdj_sym (hdj_none _), fun _ _ e => (by cases e), hle_refl _⟩

theorem Cl.freezeS {v : Value} {xs : List α} : Cl ro (fun S' => S' = frz v xs :: S) (own v xs :: S) := by
  intro F w0 w hs
  refine ⟨_, rfl, ?_⟩
  rcases hs.own_open with ⟨rfl, rfl, h⟩ | ⟨b, off, cap, pre, post, cells, rfl, hc, hp, hq, hl, h⟩
  · exact h.ent ent_frzNil
  · have h2 : Hs ro (fzb b (pre ++ cells ++ post) :: repsA xs cells :: S) F w0 w := ⟨h.1, h.2.freeze⟩
    refine h2.ent ?_
    rintro h ⟨h1, h2, o, ⟨h3, h4, r, s, d', l3, l4⟩, d, l1, l2⟩
    have d13 := hdj_le d l3
    have d14 := hdj_le d l4
    refine ⟨hun h1 h3, h4, ⟨cells, reps_mono (hle_un_r d13) r, .inr ⟨b, off, cap, pre, post, rfl, hc, hp, ?_⟩⟩, s, hdj_sym (hdj_un (hdj_sym d14) (hdj_sym d')), hun_le l1 (hle_trans l3 l2), hle_trans l4 l2⟩
    obtain ⟨ob, e, p⟩ := o
    exact ⟨ob, hle_un_l _ _ _ _ e, p⟩
theorem W_frzS {t : Tr} {v : Value} {xs : List α} {S' : List Asrt} (p : Pick S (own v xs) S') (h : WT P hb t d ro (frz v xs :: S') R Ev) : WT P hb t d ro S R Ev :=
  WT.ent t p.ent (WT.cl t (Cl.mono (fun _ e => by rw [e]; exact h) Cl.freezeS))
theorem W_openS {t : Tr} {v : Value} {xs : List α} {S' : List Asrt} (p : Pick S (own v xs) S') (h0 : v = .slice none 0 0 → xs = [] → WT P hb t d ro S' R Ev)
    (h : ∀ b off cap pre post cells, v = .slice (some ⟨b, off, none⟩) xs.length cap → xs.length ≤ cap → pre.length = off → (cap - xs.length) * Rep.es α ≤ post.length → cells.length = xs.length * Rep.es α → WT P hb t d ro (blk b (pre ++ cells ++ post) :: repsA xs cells :: S') R Ev) :
    WT P hb t d ro S R Ev := by
  refine WT.ent t p.ent (WT.cl t ?_)
  intro F w0 w hs
  rcases hs.own_open with ⟨e1, e2, hs⟩ | ⟨b, off, cap, pre, post, cells, e, hc, hp, hq, hl, hs⟩
  · exact ⟨_, h0 e1 e2, hs⟩
  · exact ⟨_, h b off cap pre post cells e hc hp hq hl, hs⟩
end
end Go.Lb
