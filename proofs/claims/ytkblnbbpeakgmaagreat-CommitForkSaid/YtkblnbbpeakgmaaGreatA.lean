/- Separation logic over the kit's 'Calls': assertions, states, the judgements on code. No statement of the seat is proved in this file. -/
import Derived.Orders
import Derived.KernelRfl
set_option linter.all false
namespace Go.Lb

/-- memory; and memory that is owned (false) or frozen (true: no one writes it any more, and who knows of it may say so as often as he likes) -/
abbrev HH := Nat → Option Obj
abbrev HP := Nat → Option (Bool × Obj)
abbrev Asrt := HP → Prop

def hle (h g : HP) : Prop := ∀ b o, h b = some o → g b = some o
def hdj (h g : HP) : Prop := ∀ b, h b = none ∨ g b = none ∨ (h b = g b ∧ ∃ o, h b = some (true, o))
def hun (h g : HP) : HP := fun b => match h b with | some o => some o | none => g b
def hof (w : World) : HH := fun b => w.heap[b]?
def Has (h : HP) (w : World) : Prop := ∀ b f o, h b = some (f, o) → hof w b = some o

theorem hle_refl (h : HP) : hle h h := fun _ _ e => e
theorem hle_trans {h g k : HP} (a : hle h g) (b : hle g k) : hle h k := fun x o e => b x o (a x o e)
theorem hdj_sym {h g : HP} (d : hdj h g) : hdj g h := fun b => by
  rcases d b with d | d | ⟨d, o, e⟩
  · exact .inr (.inl d)
  · exact .inl d
  · exact .inr (.inr ⟨d.symm, o, by rw [← d]; exact e⟩)
theorem hdj_none (h : HP) : hdj h (fun _ => none) := fun _ => .inr (.inl rfl)
theorem hdj_le {h g k : HP} (d : hdj h g) (l : hle k g) : hdj h k := fun b => by
  cases e : k b with
  | none => exact .inr (.inl rfl)
  | some o =>
    rcases d b with d | d | ⟨d, x, e'⟩
    · exact .inl d
    · rw [l b o e] at d; cases d
    · exact .inr (.inr ⟨by rw [d, l b o e], x, e'⟩)
theorem hle_un_l (h g : HP) : hle h (hun h g) := fun b o e => by simp [hun, e]
theorem hle_un_r {h g : HP} (d : hdj h g) : hle g (hun h g) := fun b o e => by
  rcases d b with d | d | ⟨d, x, e'⟩
  · simp [hun, d, e]
  · rw [e] at d; cases d
  · simp only [hun, e']
    rw [← e', d, e]
theorem hun_le {h g k : HP} (a : hle h k) (b : hle g k) : hle (hun h g) k := fun x o e => by
  unfold hun at e
  cases hx : h x with
  | none => rw [hx] at e; exact b x o e
  | some y => rw [hx] at e; cases e; exact a x o hx
theorem hdj_un {h g k : HP} (a : hdj k h) (b : hdj k g) : hdj k (hun h g) := fun x => by
  cases e : h x with
  | none => simp only [hun, e]; exact b x
  | some y => simp only [hun, e]; rw [← e]; exact a x
theorem Has.le {h g : HP} {w : World} (l : hle h g) (H : Has g w) : Has h w := fun b f o e => H b f o (l b _ e)
theorem Has.un {h g : HP} {w : World} (H : Has h w) (G : Has g w) : Has (hun h g) w := fun b f o e => by
  unfold hun at e
  cases hx : h b with
  | none => rw [hx] at e; exact G b f o e
  | some y => rw [hx] at e; cases e; exact H b f o hx

def star (A B : Asrt) : Asrt := fun h => ∃ h1 h2, A h1 ∧ B h2 ∧ hdj h1 h2 ∧ hle h1 h ∧ hle h2 h

def big : List Asrt → Asrt
  | [] => fun _ => True
  | A :: l => star A (big l)

theorem star_mono {A B : Asrt} {h g : HP} (l : hle h g) (s : star A B h) : star A B g := by
  obtain ⟨h1, h2, a, b, d, l1, l2⟩ := s
  exact ⟨h1, h2, a, b, d, hle_trans l1 l, hle_trans l2 l⟩

theorem big_mono {S : List Asrt} {h g : HP} (l : hle h g) (s : big S h) : big S g := by
  cases S with
  | nil => trivial
  | cons A S => exact star_mono l s

theorem star_imp {A B C : Asrt} {h : HP} (i : ∀ h, B h → C h) (s : star A B h) : star A C h := by
  obtain ⟨h1, h2, a, b, d, l1, l2⟩ := s
  exact ⟨h1, h2, a, i _ b, d, l1, l2⟩

theorem star_swap {A B C : Asrt} {h : HP} (s : star A (star B C) h) : star B (star A C) h := by
  obtain ⟨h1, h2, a, ⟨h3, h4, b, c, d', l3, l4⟩, d, l1, l2⟩ := s
  have d14 := hdj_le d l4
  have d13 := hdj_le d l3
  exact ⟨h3, hun h1 h4, b, ⟨h1, h4, a, c, d14, hle_un_l _ _, hle_un_r d14⟩, hdj_un (hdj_sym d13) d', hle_trans l3 l2, hun_le l1 (hle_trans l4 l2)⟩

/-- entailment of lists of assertions -/
def Ent (S S' : List Asrt) : Prop := ∀ h, big S h → big S' h

theorem Ent.refl (S : List Asrt) : Ent S S := fun _ h => h
theorem Ent.trans {S S' S'' : List Asrt} (a : Ent S S') (b : Ent S' S'') : Ent S S'' := fun h x => b h (a h x)
theorem Ent.cons {S S' : List Asrt} (A : Asrt) (a : Ent S S') : Ent (A :: S) (A :: S') := fun _ s => star_imp a s
theorem Ent.drop (A : Asrt) (S : List Asrt) : Ent (A :: S) S := fun _ ⟨_, _, _, b, _, _, l2⟩ => big_mono l2 b
theorem Ent.swap (A B : Asrt) (S : List Asrt) : Ent (A :: B :: S) (B :: A :: S) := fun _ s => star_swap s
theorem Ent.perm {S S' : List Asrt} (p : S.Perm S') : Ent S S' := by
  induction p with
  | nil => exact Ent.refl _
  | cons x _ ih => exact Ent.cons x ih
  | swap x y l => exact Ent.swap y x l
  | trans _ _ i j => exact i.trans j
theorem Ent.app {S S' : List Asrt} (a : Ent S S') (R : List Asrt) : Ent (S ++ R) (S' ++ R) := by
  refine (Ent.perm List.perm_append_comm).trans (Ent.trans ?_ (Ent.perm List.perm_append_comm))
  induction R with
  | nil => exact a
  | cons x R ih => exact Ent.cons x ih
theorem Ent.appL {S S' : List Asrt} (R : List Asrt) (a : Ent S S') : Ent (R ++ S) (R ++ S') := by
  induction R with
  | nil => exact a
  | cons x R ih => exact Ent.cons x ih
theorem Ent.nil (S : List Asrt) : Ent S [] := fun _ _ => trivial
theorem Ent.one {A B : Asrt} (i : ∀ h, A h → B h) (S : List Asrt) : Ent (A :: S) (B :: S) := fun _ ⟨h1, h2, a, b, r⟩ => ⟨h1, h2, i _ a, b, r⟩

theorem big_app {S S' : List Asrt} {h : HP} : big (S ++ S') h ↔ star (big S) (big S') h := by
  induction S generalizing h with
  | nil =>
    constructor
    · intro s
      exact ⟨fun _ => none, h, trivial, s, hdj_sym (hdj_none _), fun _ _ e => (by cases e), hle_refl _⟩
    · rintro ⟨h1, h2, _, b, _, _, l2⟩
      exact big_mono l2 b
  | cons A S ih =>
    constructor
    · rintro ⟨h1, h2, a, b, d, l1, l2⟩
      obtain ⟨h3, h4, s, s', d', l3, l4⟩ := ih.1 b
      have d13 := hdj_le d l3
      have d14 := hdj_le d l4
      exact ⟨hun h1 h3, h4, ⟨h1, h3, a, s, d13, hle_un_l _ _, hle_un_r d13⟩, s', hdj_sym (hdj_un (hdj_sym d14) (hdj_sym d')), hun_le l1 (hle_trans l3 l2), hle_trans l4 l2⟩
    · rintro ⟨h1, h2, ⟨h3, h4, a, s, d', l3, l4⟩, s', d, l1, l2⟩
      have d32 : hdj h3 h2 := hdj_sym (hdj_le (hdj_sym d) l3)
      have d42 : hdj h4 h2 := hdj_sym (hdj_le (hdj_sym d) l4)
      refine ⟨h3, hun h4 h2, a, ih.2 ⟨h4, h2, s, s', d42, hle_un_l _ _, hle_un_r d42⟩, hdj_un d' d32, hle_trans l3 l1, hun_le (hle_trans l4 l1) l2⟩

theorem big_fold {S X : List Asrt} {h : HP} : big (S ++ [big X]) h ↔ big (S ++ X) h := by
  rw [big_app, big_app]
  constructor
  · rintro ⟨h1, h2, s, ⟨h3, _, x, _, _, l3, _⟩, d, l1, l2⟩
    exact ⟨h1, h2, s, big_mono l3 x, d, l1, l2⟩
  · rintro ⟨h1, h2, s, x, d, l1, l2⟩
    exact ⟨h1, h2, s, ⟨h2, fun _ => none, x, trivial, hdj_none _, hle_refl _, fun _ _ e => (by cases e)⟩, d, l1, l2⟩

/-- the state S holds in the world, beside the memory ro that is only read -/
def Holds (ro : HP) (S : List Asrt) (w : World) : Prop := ∃ h, big S h ∧ hdj ro h ∧ Has h w ∧ Has ro w

theorem Holds.ent {ro : HP} {S S' : List Asrt} {w : World} (hs : Holds ro S w) (e : Ent S S') : Holds ro S' w :=
  let ⟨h, s, r⟩ := hs; ⟨h, e h s, r⟩

/-- a block that is owned; one that is frozen -/
def one (b : Nat) (p : Obj → Prop) : Asrt := fun h => ∃ o, h b = some (false, o) ∧ p o
def fz (b : Nat) (p : Obj → Prop) : Asrt := fun h => ∃ o, h b = some (true, o) ∧ p o

theorem Holds.ro {ro : HP} {S : List Asrt} {w : World} (hs : Holds ro S w) : Has ro w := hs.choose_spec.2.2.2
theorem Holds.get {ro : HP} {b : Nat} {p : Obj → Prop} {S : List Asrt} {w : World} (hs : Holds ro (one b p :: S) w) : ∃ o, hof w b = some o ∧ p o := by
  obtain ⟨h, ⟨h1, h2, ⟨o, e, po⟩, _, _, l1, _⟩, _, r, _⟩ := hs
  exact ⟨o, r b _ o (l1 b _ e), po⟩
/-- of what holds the memory is there -/
theorem Holds.hd {ro : HP} {A : Asrt} {S : List Asrt} {w : World} (hs : Holds ro (A :: S) w) : ∃ h, A h ∧ Has h w := by
  obtain ⟨h, ⟨h1, h2, a, _, _, l1, _⟩, _, r, _⟩ := hs
  exact ⟨h1, a, r.le l1⟩

theorem Has.old {h : HP} {w : World} (r : Has h w) {b : Nat} {x : Bool × Obj} (e : h b = some x) : b < w.heap.size := (Array.getElem?_eq_some_iff.1 (r b x.1 x.2 e)).1
theorem Has.push {h : HP} {w : World} (r : Has h w) (o : Obj) : Has h { w with heap := w.heap.push o } := fun b f x e => by
  have hb := r.old e
  show (w.heap.push o)[b]? = some x
  rw [Array.getElem?_push, if_neg (by omega)]
  exact r b f x e

theorem Holds.push {ro : HP} {S : List Asrt} {w : World} (hs : Holds ro S w) (o : Obj) :
    Holds ro (one w.heap.size (· = o) :: S) { w with heap := w.heap.push o } := by
  obtain ⟨h, s, d, r, l⟩ := hs
  have hn : h w.heap.size = none := by
    cases e : h w.heap.size with
    | none => rfl
    | some x => have := r.old e; omega
  have rn : ro w.heap.size = none := by
    cases e : ro w.heap.size with
    | none => rfl
    | some x => have := l.old e; omega
  have d1 : ∀ k : HP, k w.heap.size = none → hdj k (fun b => if b = w.heap.size then some (false, o) else none) := by
    intro k hk b
    by_cases e : b = w.heap.size
    · subst e; exact .inl hk
    · simp [e]
  refine ⟨hun (fun b => if b = w.heap.size then some (false, o) else none) h, ⟨_, h, ⟨o, by simp, rfl⟩, s, hdj_sym (d1 h hn), hle_un_l _ _, hle_un_r (hdj_sym (d1 h hn))⟩, hdj_un (d1 ro rn) d, Has.un ?_ (r.push o), l.push o⟩
  intro b f x e
  by_cases eb : b = w.heap.size
  · subst eb
    simp at e
    obtain ⟨_, rfl⟩ := e
    show (w.heap.push o)[w.heap.size]? = some o
    simp
  · simp [eb] at e

theorem hdj_owned {h g : HP} (d : hdj h g) {b : Nat} {o : Obj} (e : h b = some (false, o)) : g b = none := by
  rcases d b with d | d | ⟨d, x, e'⟩
  · rw [e] at d; cases d
  · exact d
  · rw [e] at e'; cases e'

/-- what is owned may be another thing from now on -/
theorem Holds.swapb {ro : HP} {b : Nat} {p : Obj → Prop} {S : List Asrt} {w : World} (hs : Holds ro (one b p :: S) w) :
    ∃ o, hof w b = some o ∧ p o ∧ ∀ (f : Bool) (o' : Obj) (A : Asrt) (w' : World), (∀ h : HP, h b = some (f, o') → A h) → (∀ i, hof w' i = if i = b then some o' else hof w i) → Holds ro (A :: S) w' := by
  obtain ⟨h, ⟨h1, h2, ⟨o, e, po⟩, s, d, l1, l2⟩, dr, r, l⟩ := hs
  have rb : ro b = none := hdj_owned (hdj_sym dr) (l1 b _ e)
  have h2b : h2 b = none := hdj_owned d e
  refine ⟨o, r b _ o (l1 b _ e), po, ?_⟩
  intro f o' A w' hA hw'
  have dd : ∀ k : HP, k b = none → hdj k (fun i => if i = b then some (f, o') else none) := by
    intro k hk i
    by_cases ei : i = b
    · subst ei; exact .inl hk
    · simp [ei]
  have keep : ∀ k : HP, k b = none → Has k w → Has k w' := by
    intro k hk H i g x hx
    have : i ≠ b := by rintro rfl; rw [hk] at hx; cases hx
    rw [hw', if_neg this]
    exact H i g x hx
  refine ⟨hun (fun i => if i = b then some (f, o') else none) h2, ⟨_, h2, hA _ (by simp), s, hdj_sym (dd h2 h2b), hle_un_l _ _, hle_un_r (hdj_sym (dd h2 h2b))⟩, hdj_un (dd ro rb) (hdj_le dr l2), Has.un ?_ (keep h2 h2b (r.le l2)), keep ro rb l⟩
  intro i g x hx
  by_cases ei : i = b
  · simp [ei] at hx; obtain ⟨_, rfl⟩ := hx; rw [hw']; simp [ei]
  · simp [ei] at hx

theorem Holds.upd {ro : HP} {b : Nat} {p : Obj → Prop} {S : List Asrt} {w : World} (hs : Holds ro (one b p :: S) w) :
    ∃ o, hof w b = some o ∧ p o ∧ ∀ (o' : Obj) (q : Obj → Prop) (w' : World), q o' → (∀ i, hof w' i = if i = b then some o' else hof w i) → Holds ro (one b q :: S) w' :=
  let ⟨o, e, po, up⟩ := hs.swapb
  ⟨o, e, po, fun o' q w' qo hw' => up false o' _ w' (fun h hb => ⟨o', hb, qo⟩) hw'⟩

theorem Holds.freeze {ro : HP} {b : Nat} {p : Obj → Prop} {S : List Asrt} {w : World} (hs : Holds ro (one b p :: S) w) : Holds ro (fz b p :: S) w :=
  let ⟨o, e, po, up⟩ := hs.swapb
  up true o _ w (fun h hb => ⟨o, hb, po⟩) fun i => by
    by_cases ei : i = b
    · subst ei; simp [e]
    · simp [ei]

def Same (w0 w : World) : Prop := w.tape = w0.tape ∧ w.os = w0.os ∧ w.output = w0.output

/-- the state S beside a frame F -/
def Hs (ro : HP) (S : List Asrt) (F : Asrt) (w0 w : World) : Prop := Same w0 w ∧ Holds ro (S ++ [F]) w

theorem Hs.ent {ro : HP} {S S' : List Asrt} {F : Asrt} {w0 w : World} (hs : Hs ro S F w0 w) (e : Ent S S') : Hs ro S' F w0 w :=
  ⟨hs.1, hs.2.ent (e.app _)⟩

theorem Hs.split {ro : HP} {S R : List Asrt} {F : Asrt} {w0 w : World} : Hs ro S (big (R ++ [F])) w0 w ↔ Hs ro (S ++ R) F w0 w := by
  unfold Hs Holds
  constructor
  · rintro ⟨sm, h, s, r⟩
    exact ⟨sm, h, by have := big_fold.1 s; rwa [← List.append_assoc] at this, r⟩
  · rintro ⟨sm, h, s, r⟩
    exact ⟨sm, h, big_fold.2 (by rwa [List.append_assoc] at s), r⟩

/-- in whatever world the state holds, another one holds beside it of which X is said -/
def Cl (ro : HP) (X : List Asrt → Prop) (S : List Asrt) : Prop := ∀ F w0 w, Hs ro S F w0 w → ∃ S', X S' ∧ Hs ro S' F w0 w

theorem Cl.intro {ro : HP} {X : List Asrt → Prop} {S : List Asrt} (h : X S) : Cl ro X S := fun _ _ _ hs => ⟨S, h, hs⟩
theorem Cl.ent {ro : HP} {X : List Asrt → Prop} {S S' : List Asrt} (e : Ent S S') (h : Cl ro X S') : Cl ro X S := fun F w0 w hs => h F w0 w (hs.ent e)
theorem Cl.mono {ro : HP} {X Y : List Asrt → Prop} {S : List Asrt} (i : ∀ S, X S → Y S) (h : Cl ro X S) : Cl ro Y S := fun F w0 w hs => let ⟨S', x, r⟩ := h F w0 w hs; ⟨S', i _ x, r⟩
theorem Cl.bind {ro : HP} {X Y : List Asrt → Prop} {S : List Asrt} (h : Cl ro X S) (i : ∀ S, X S → Cl ro Y S) : Cl ro Y S := fun F w0 w hs => let ⟨S', x, r⟩ := h F w0 w hs; i S' x F w0 w r

abbrev Post := Exit → Act → List Asrt → Prop

def lift (ro : HP) (F : Asrt) (w0 : World) (Q : Post) : Exit → Act → World → Prop := fun e a w => ∃ S, Q e a S ∧ Hs ro S F w0 w

/-- the judgement on code -/
def SW (P : Program) (ro : HP) (c : Code) (Q : Post) (a : Act) (S : List Asrt) : Prop :=
  ∀ F w0 w, Hs ro S F w0 w → c.wp P (lift ro F w0 Q) a w

def thenS (next : Act → List Asrt → Prop) (Q : Post) : Post
  | .normal, a, S => next a S
  | e, a, S => Q e a S

section
variable {P : Program} {ro : HP} {Q : Post} {a : Act} {S : List Asrt}

theorem SW.mono {c : Code} {Q' : Post} (h : SW P ro c Q a S) (hq : ∀ e a S, Q e a S → Q' e a S) : SW P ro c Q' a S :=
  fun F w0 w hs => wp_mono (h F w0 w hs) fun _ _ _ ⟨S', q, r⟩ => ⟨S', hq _ _ _ q, r⟩

theorem SW.ent {c : Code} {S' : List Asrt} (e : Ent S S') (h : SW P ro c Q a S') : SW P ro c Q a S :=
  fun F w0 w hs => h F w0 w (hs.ent e)

theorem SW.of_cl {c : Code} (h : SW P ro c (fun e a S => Cl ro (Q e a) S) a S) : SW P ro c Q a S :=
  fun F w0 w hs => wp_mono (h F w0 w hs) fun _ _ _ ⟨_, q, r⟩ => q F w0 _ r
theorem SW.cl {c : Code} (h : Cl ro (fun S => SW P ro c Q a S) S) : SW P ro c Q a S :=
  fun F w0 w hs => let ⟨_, x, r⟩ := h F w0 w hs; x F w0 w r

theorem SW_skip (h : Q .normal a S) : SW P ro .skip Q a S := fun _ _ _ hs => wp_skip ⟨S, h, hs⟩
theorem SW_ret (h : Q .ret a S) : SW P ro .ret Q a S := fun _ _ _ hs => wp_ret ⟨S, h, hs⟩
theorem SW_exit {id : Nat} (h : Q (.exit id) a S) : SW P ro (.exit id) Q a S := fun _ _ _ hs => wp_exit ⟨S, h, hs⟩

theorem SW_seq {x y : Code} (h : SW P ro x (thenS (fun a S => SW P ro y Q a S) Q) a S) : SW P ro (.seq x y) Q a S := by
  intro F w0 w hs
  refine wp_seq (wp_mono (h F w0 w hs) ?_)
  rintro e a' w' ⟨S', q, hs'⟩
  cases e with
  | normal => exact q F w0 w' hs'
  | exit id => exact ⟨S', q, hs'⟩
  | goto l => exact ⟨S', q, hs'⟩
  | ret => exact ⟨S', q, hs'⟩
  | panic ch => exact ⟨S', q, hs'⟩
  | outgrown => exact ⟨S', q, hs'⟩

theorem SW_cond {c : Operand} {x y : Code} {t : Bool} (hc : a.eval c = .bool t) (ht : t = true → SW P ro x Q a S) (hf : t = false → SW P ro y Q a S) :
    SW P ro (.cond c x y) Q a S := by
  intro F w0 w hs
  cases t with
  | true => exact wp_cond_true hc (ht rfl F w0 w hs)
  | false => exact wp_cond_false hc (hf rfl F w0 w hs)

def inBlockS (id : Nat) (Q : Post) : Post
  | .exit id', a, S => if id' = id then Q .normal a S else Q (.exit id') a S
  | e, a, S => Q e a S

theorem SW_block {id : Nat} {c : Code} (h : SW P ro c (inBlockS id Q) a S) : SW P ro (.block id c) Q a S := by
  intro F w0 w hs
  refine wp_block (wp_mono (h F w0 w hs) ?_)
  rintro e a' w' ⟨S', q, hs'⟩
  cases e with
  | exit id' =>
    simp only [inBlockS, Exit.inBlock] at q ⊢
    split
    · rename_i e; rw [if_pos e] at q; exact ⟨S', q, hs'⟩
    · rename_i e; rw [if_neg e] at q; exact ⟨S', q, hs'⟩
  | normal => exact ⟨S', q, hs'⟩
  | goto l => exact ⟨S', q, hs'⟩
  | ret => exact ⟨S', q, hs'⟩
  | panic ch => exact ⟨S', q, hs'⟩
  | outgrown => exact ⟨S', q, hs'⟩

theorem wp_loop_ix {c : Code} {Q : Exit → Act → World → Prop} (I : Nat → Act → World → Prop)
    (round : ∀ n a w, I n a w → c.wp P (Exit.then (fun a' w' => ∃ m, m < n ∧ I m a' w') Q) a w) {n : Nat} {a : Act} {w : World} (h₀ : I n a w) : (Code.loop c).wp P Q a w := by
  intro b k cs
  have key : ∀ n a w, I n a w →
      ∃ e a' w', Q e a' w' ∧ Arrives P (lone (b.at a (.code c :: .inLoop c :: k)) cs w) b k cs e a' w' := by
    intro n
    induction n using Nat.strongRecOn with
    | _ n ih =>
      intro a w hI
      obtain ⟨e, a₁, w₁, hq, harr⟩ := round n a w hI b (.inLoop c :: k) cs
      cases e with
      | normal =>
        obtain ⟨m, hlt, hI₁⟩ := hq
        obtain ⟨e₂, a₂, w₂, hq₂, harr₂⟩ := ih m hlt a₁ w₁ hI₁
        exact ⟨e₂, a₂, w₂, hq₂, .of_steps (Steps.trans harr (.one step_inLoop)) harr₂⟩
      | exit id => exact ⟨_, a₁, w₁, hq, .pass (x := .inLoop c) rfl (fun _ _ => .inl (by simp)) harr⟩
      | goto l => exact ⟨_, a₁, w₁, hq, .pass (x := .inLoop c) rfl (fun _ _ => .inl (by simp)) harr⟩
      | ret => exact ⟨_, a₁, w₁, hq, .pass (x := .inLoop c) rfl (fun _ _ => .inl (by simp)) harr⟩
      | panic ch => exact ⟨_, a₁, w₁, hq, .pass (x := .inLoop c) rfl (fun _ _ => .inl (by simp)) harr⟩
      | outgrown => exact ⟨_, a₁, w₁, hq, .pass (x := .inLoop c) rfl (fun _ _ => .inl (by simp)) harr⟩
  obtain ⟨e, a', w', hq, harr⟩ := key n a w h₀
  exact ⟨e, a', w', hq, .of_steps (.one step_loop) harr⟩

theorem SW_loop {c : Code} (I : Nat → Act → List Asrt → Prop) {n : Nat} (h₀ : I n a S)
    (round : ∀ n a S, I n a S → SW P ro c (thenS (fun a' S' => ∃ m, m < n ∧ I m a' S') Q) a S) : SW P ro (.loop c) Q a S := by
  intro F w0 w hs
  refine wp_loop_ix (fun n a w => ∃ S, I n a S ∧ Hs ro S F w0 w) ?_ (n := n) ⟨S, h₀, hs⟩
  rintro n a w ⟨S, hI, hs⟩
  refine wp_mono (round n a S hI F w0 w hs) ?_
  rintro e a' w' ⟨S', q, hs'⟩
  cases e with
  | normal => obtain ⟨m, hm, q⟩ := q; exact ⟨m, hm, S', q, hs'⟩
  | exit id => exact ⟨S', q, hs'⟩
  | goto l => exact ⟨S', q, hs'⟩
  | ret => exact ⟨S', q, hs'⟩
  | panic ch => exact ⟨S', q, hs'⟩
  | outgrown => exact ⟨S', q, hs'⟩
end

/-- the contract of a function -/
def Tri (P : Program) (ro : HP) (f : FuncId) (args : Array Value) (S : List Asrt) (Q : Value → List Asrt → Prop) : Prop :=
  ∀ F w0 w, Hs ro S F w0 w → Calls P f args w fun e w' => ∃ v S', e = .returned v ∧ Q v S' ∧ Hs ro S' F w0 w'

theorem Tri.frame {P : Program} {ro : HP} {f : FuncId} {args : Array Value} {S : List Asrt} {Q : Value → List Asrt → Prop} (h : Tri P ro f args S Q) (R : List Asrt) :
    Tri P ro f args (S ++ R) fun v S' => ∃ S'', S' = S'' ++ R ∧ Q v S'' :=
  fun F w0 w hs => (h (big (R ++ [F])) w0 w (Hs.split.2 hs)).mono fun _ _ ⟨v, S', e, q, hs'⟩ => ⟨v, S' ++ R, e, ⟨S', rfl, q⟩, Hs.split.1 hs'⟩

theorem Tri.ent {P : Program} {ro : HP} {f : FuncId} {args : Array Value} {S S' : List Asrt} {Q : Value → List Asrt → Prop} (e : Ent S S') (h : Tri P ro f args S' Q) : Tri P ro f args S Q :=
  fun F w0 w hs => h F w0 w (hs.ent e)

theorem Tri.mono {P : Program} {ro : HP} {f : FuncId} {args : Array Value} {S : List Asrt} {Q Q' : Value → List Asrt → Prop} (h : Tri P ro f args S Q) (q : ∀ v S', Q v S' → Q' v S') : Tri P ro f args S Q' :=
  fun F w0 w hs => (h F w0 w hs).mono fun _ _ ⟨v, S', e, x, hs'⟩ => ⟨v, S', e, q _ _ x, hs'⟩

end Go.Lb
