/- Rules for the judgement on trees: states, blocks, calls, ways. No statement of the seat is proved in this file. -/
import Derived.Test.YtkblnbbpeakgmaaGreatN
set_option linter.all false
namespace Go.Lb

/-! ### picking assertions out of a state -/
inductive Pick : List Asrt → Asrt → List Asrt → Prop where
  | hd {A : Asrt} {S : List Asrt} : Pick (A :: S) A S
  | tl {A B : Asrt} {S R : List Asrt} (h : Pick S A R) : Pick (B :: S) A (B :: R)
inductive Sub : List Asrt → List Asrt → List Asrt → Prop where
  | nil {S : List Asrt} : Sub S [] S
  | cons {S S1 R : List Asrt} {A : Asrt} {l : List Asrt} (p : Pick S A S1) (s : Sub S1 l R) : Sub S (A :: l) R

theorem Pick.perm {S R : List Asrt} {A : Asrt} (h : Pick S A R) : S.Perm (A :: R) := by
  induction h with
  | hd => exact List.Perm.refl _
  | tl _ ih => exact (ih.cons _).trans (List.Perm.swap _ _ _)
theorem Sub.perm {S l R : List Asrt} (h : Sub S l R) : S.Perm (l ++ R) := by
  induction h with
  | nil => exact List.Perm.refl _
  | cons p _ ih => exact p.perm.trans (ih.cons _)
theorem Pick.ent {S R : List Asrt} {A : Asrt} (h : Pick S A R) : Ent S (A :: R) := Ent.perm h.perm
theorem Sub.ent {S l R : List Asrt} (h : Sub S l R) : Ent S (l ++ R) := Ent.perm h.perm
theorem Ent.takeL (l R : List Asrt) : Ent (l ++ R) l := by
  intro h s
  obtain ⟨h1, _, a, _, _, l1, _⟩ := big_app.1 s
  exact big_mono l1 a
theorem Sub.ent' {S l R : List Asrt} (h : Sub S l R) : Ent S l := h.ent.trans (Ent.takeL l R)
theorem Ent.foldb (X S : List Asrt) : Ent (X ++ S) (big X :: S) := fun _ h => big_app.1 h
theorem Ent.unfoldb (X S : List Asrt) : Ent (big X :: S) (X ++ S) := fun _ h => big_app.2 h

/-- the frozen part -/
def fzp (h : HP) : HP := fun b => match h b with | some (true, o) => some (true, o) | _ => none
theorem fzp_le (h : HP) : hle (fzp h) h := fun b o e => by
  unfold fzp at e
  split at e
  · rename_i h'; rw [h', e]
  · cases e
theorem fzp_dj (h : HP) : hdj (fzp h) h := fun b => by
  unfold fzp
  split
  · rename_i o h'; exact .inr (.inr ⟨h'.symm, o, rfl⟩)
  · exact .inl rfl
theorem fzp_mono {h g : HP} (l : hle h g) : hle (fzp h) (fzp g) := fun b o e => by
  unfold fzp at e ⊢
  split at e
  · rename_i o' h'; cases e; rw [l b _ h']
  · cases e
theorem fzp_fzp (h : HP) : fzp (fzp h) = fzp h := by
  funext b
  unfold fzp
  cases h b with
  | none => rfl
  | some x => obtain ⟨f, o⟩ := x; cases f <;> rfl

/-- what is known of frozen memory alone may be said again -/
def Dup (A : Asrt) : Prop := ∀ h, A h → A (fzp h)
theorem Ent.dup {A : Asrt} {S : List Asrt} (d : Dup A) : Ent (A :: S) (A :: A :: S) := fun h ⟨h1, h2, a, s, dj, l1, l2⟩ =>
  ⟨fzp h1, hun h1 h2, d _ a, ⟨h1, h2, a, s, dj, hle_un_l _ _, hle_un_r dj⟩, hdj_un (fzp_dj h1) (hdj_sym (hdj_le (hdj_sym dj) (fzp_le h1))), hle_trans (fzp_le h1) l1, hun_le l1 l2⟩
theorem Pick.dup {A : Asrt} {S R : List Asrt} (p : Pick S A R) (d : Dup A) : Ent S (A :: S) :=
  p.ent.trans ((Ent.dup d).trans (Ent.cons A (Ent.perm p.perm.symm)))

/-! ### blocks -/
def isBlk (l : List Value) (o : Obj) : Prop := ∃ e z, o = .cells ⟨l⟩ e z ∧ (z.2 ≤ 0 ∨ l.length ≤ z.1)
/-- to be read alone -/
def isBlkR (l : List Value) (o : Obj) : Prop := ∃ e z, o = .cells ⟨l⟩ e z
theorem isBlk.r {l : List Value} {o : Obj} (h : isBlk l o) : isBlkR l o := let ⟨e, z, h, _⟩ := h; ⟨e, z, h⟩
def blk (b : Nat) (l : List Value) : Asrt := one b (isBlk l)
def fzb (b : Nat) (l : List Value) : Asrt := fz b (isBlk l)
def mp (b : Nat) (es : List MapEntry) (ck : Nat) : Asrt := one b (· = .map ⟨es⟩ ck)

theorem fz_dup (b : Nat) (p : Obj → Prop) : Dup (fz b p) := fun h ⟨o, e, po⟩ => ⟨o, by simp [fzp, e], po⟩
theorem fzb_dup (b : Nat) (l : List Value) : Dup (fzb b l) := fz_dup b _

/-- an assertion that is known of read memory -/
def Kn (ro : HP) (A : Asrt) : Prop := ∃ h, A h ∧ hle h ro
theorem Kn.mono {ro ro' : HP} {A : Asrt} (k : Kn ro A) (i : hle ro ro') : Kn ro' A := let ⟨h, a, l⟩ := k; ⟨h, a, hle_trans l i⟩
theorem Kn.of_big {ro : HP} {A : Asrt} {B : List Asrt} (h : big (A :: B) ro) : Kn ro A ∧ big B ro := by
  obtain ⟨h1, h2, a, s, _, l1, l2⟩ := h
  exact ⟨⟨h1, a, l1⟩, big_mono l2 s⟩

/-- the block b is seen to be l -/
def See (d : Bool) (ro : HP) (S : List Asrt) (b : Nat) (l : List Value) : Prop := ∀ w, (if d then Has ro w else ∃ F, Holds ro (S ++ [F]) w) → ∃ o, hof w b = some o ∧ isBlkR l o

inductive Mem : Asrt → List Asrt → Prop where
  | hd {A : Asrt} {S : List Asrt} : Mem A (A :: S)
  | tl {A B : Asrt} {S : List Asrt} (h : Mem A S) : Mem A (B :: S)
theorem Mem.pick {A : Asrt} {S : List Asrt} (m : Mem A S) : ∃ R, Pick S A R := by
  induction m with
  | hd => exact ⟨_, .hd⟩
  | tl _ ih => obtain ⟨R, p⟩ := ih; exact ⟨_, .tl p⟩

/-- where an assertion is, or is known -/
def At (d : Bool) (ro : HP) (S : List Asrt) (A : Asrt) : Prop := Kn ro A ∨ (d = false ∧ Mem A S)

theorem Mem.holds {ro : HP} {A : Asrt} {S : List Asrt} {w : World} (m : Mem A S) (h : ∃ F, Holds ro (S ++ [F]) w) : ∃ g, A g ∧ Has g w := by
  obtain ⟨R, p⟩ := m.pick
  obtain ⟨F, hF⟩ := h
  exact (hF.ent (p.ent.app _)).hd
theorem At.holds {d : Bool} {ro : HP} {A : Asrt} {S : List Asrt} {w : World} (m : At d ro S A) (h : if d then Has ro w else ∃ F, Holds ro (S ++ [F]) w) : ∃ g, A g ∧ Has g w := by
  rcases m with ⟨g, a, l⟩ | ⟨rfl, m⟩
  · refine ⟨g, a, Has.le l ?_⟩
    cases d with
    | true => exact h
    | false => obtain ⟨F, hF⟩ := h; exact hF.ro
  · exact m.holds h

section
variable {d : Bool} {ro : HP} {S : List Asrt} {b : Nat} {l : List Value}
theorem See.blk (m : At d ro S (blk b l)) : See d ro S b l := fun _ hw => let ⟨_, ⟨o, e, p⟩, H⟩ := m.holds hw; ⟨o, H _ _ _ e, p.r⟩
theorem See.fz (m : At d ro S (fzb b l)) : See d ro S b l := fun _ hw => let ⟨_, ⟨o, e, p⟩, H⟩ := m.holds hw; ⟨o, H _ _ _ e, p.r⟩
theorem At.mem {A : Asrt} (m : Mem A S) : At false ro S A := .inr ⟨rfl, m⟩
theorem At.kn {A : Asrt} (k : Kn ro A) : At d ro S A := .inl k
end

theorem rdN_blk {h : HH} {b off n : Nat} {l : List Value} {o : Obj} (e : h b = some o) (p : isBlkR l o) (hn : off + n ≤ l.length) : rdN h ⟨b, off, none⟩ n = some ((l.drop off).take n) := by
  obtain ⟨t, fz, rfl⟩ := p
  unfold rdN
  by_cases h0 : n = 0
  · simp [h0]
  · rw [if_neg h0]
    simp only [e]
    rw [if_pos (by simpa using hn)]

theorem Addr.add_eq (b off m : Nat) : (⟨b, off, none⟩ : Addr).add m = ⟨b, off + m, none⟩ := by
  unfold Addr.add; split <;> simp_all

section
variable {P : Program} {hb : Nat → Bool} {d : Bool} {ro : HP} {S : List Asrt} {R : Value → List Asrt → Prop} {Ev : Nat → List Value → List Asrt → Prop}

theorem W_ent {t : Tr} {S' : List Asrt} (e : Ent S S') (h : WT P hb t d ro S' R Ev) : WT P hb t d ro S R Ev := WT.ent t e h
theorem W_sub {t : Tr} {X S' : List Asrt} (s : Sub S X S') (h : WT P hb t d ro (X ++ S') R Ev) : WT P hb t d ro S R Ev := WT.ent t s.ent h
theorem W_dup {t : Tr} {A : Asrt} {S' : List Asrt} (p : Pick S A S') (a : Dup A) (h : WT P hb t d ro (A :: S) R Ev) : WT P hb t d ro S R Ev := WT.ent t (p.dup a) h

theorem Cl.freeze {b : Nat} {p : Obj → Prop} : Cl ro (fun S' => S' = fz b p :: S) (one b p :: S) := fun _ _ _ hs => ⟨_, rfl, hs.1, hs.2.freeze⟩
theorem W_frz {t : Tr} {b : Nat} {l : List Value} {S' : List Asrt} (p : Pick S (blk b l) S') (h : WT P hb t d ro (fzb b l :: S') R Ev) : WT P hb t d ro S R Ev :=
  WT.ent t p.ent (WT.cl t (Cl.mono (fun _ e => by rw [e]; exact h) (Cl.freeze (b := b) (p := isBlk l) (S := S'))))

/-- something that is there -/
def exL {β : Type} (X : β → List Asrt) : Asrt := fun h => ∃ b, big (X b) h
theorem Ent.exL {β : Type} {X : β → List Asrt} (b : β) (S : List Asrt) : Ent (X b ++ S) (exL X :: S) := fun _ h => let ⟨h1, h2, x, s, r⟩ := big_app.1 h; ⟨h1, h2, ⟨b, x⟩, s, r⟩
theorem Cl.exA {β : Type} {X : β → Asrt} : Cl ro (fun S' => ∃ b, S' = X b :: S) ((fun h => ∃ b, X b h) :: S) := by
  rintro F w0 w ⟨sm, h, ⟨h1, h2, ⟨b, x⟩, s, r⟩, k⟩
  exact ⟨_, ⟨b, rfl⟩, sm, h, ⟨h1, h2, x, s, r⟩, k⟩
theorem W_exA {t : Tr} {β : Type} {X : β → Asrt} (h : ∀ b, WT P hb t d ro (X b :: S) R Ev) : WT P hb t d ro ((fun h => ∃ b, X b h) :: S) R Ev :=
  WT.cl t (Cl.mono (fun _ ⟨b, e⟩ => by rw [e]; exact h b) Cl.exA)
theorem W_exL {t : Tr} {β : Type} {X : β → List Asrt} {S' : List Asrt} (p : Pick S (exL X) S') (h : ∀ b, WT P hb t d ro (X b ++ S') R Ev) : WT P hb t d ro S R Ev :=
  WT.ent t p.ent (W_exA (X := fun b => big (X b)) fun b => WT.ent t (Ent.unfoldb _ _) (h b))
/-- something that is so -/
theorem Cl.pureA {p : Prop} {A : Asrt} (h : ∀ g, A g → p) : Cl ro (fun S' => p ∧ S' = A :: S) (A :: S) := by
  rintro F w0 w ⟨sm, g, ⟨h1, h2, a, s, r⟩, k⟩
  exact ⟨_, ⟨h _ a, rfl⟩, sm, g, ⟨h1, h2, a, s, r⟩, k⟩
theorem W_pure {t : Tr} {p : Prop} {A : Asrt} {S' : List Asrt} (m : Pick S A S') (i : ∀ g, A g → p) (h : p → WT P hb t d ro (A :: S') R Ev) : WT P hb t d ro S R Ev :=
  WT.ent t m.ent (WT.cl t (Cl.mono (fun _ ⟨a, e⟩ => by rw [e]; exact h a) (Cl.pureA i)))
/-- a thing that holds of an assertion's memory, to be said of another one in its stead -/
theorem W_conv {t : Tr} {A B : Asrt} {S' : List Asrt} (m : Pick S A S') (i : ∀ g, A g → B g) (h : WT P hb t d ro (B :: S') R Ev) : WT P hb t d ro S R Ev :=
  WT.ent t (m.ent.trans (Ent.one i S')) h

/-! ### nodes without memory -/
theorem W_pu {p : Pu} {k : Value → Tr} {v : Value} (h : p.ev = some v) (x : WT P hb (k v) d ro S R Ev) : WT P hb (.pu p k) d ro S R Ev := Cl.intro ⟨v, h, x⟩

theorem i64_wrap {n : Int} (h : -9223372036854775808 ≤ n ∧ n ≤ 9223372036854775807) : IntKind.i64.wrap n = n := by
  simp only [IntKind.wrap, IntKind.bits, IntKind.signed]; simp; split <;> omega

theorem W_add {a b : Int} {k : Value → Tr} (h : -9223372036854775808 ≤ a + b ∧ a + b ≤ 9223372036854775807) (x : WT P hb (k (.int .i64 (a + b))) d ro S R Ev) : WT P hb (.pu (.bin .add (.int .i64 a) (.int .i64 b)) k) d ro S R Ev :=
  W_pu (by show some (Value.int .i64 (IntKind.i64.wrap (a + b))) = _; rw [i64_wrap h]) x
theorem W_sub' {a b : Int} {k : Value → Tr} (h : -9223372036854775808 ≤ a - b ∧ a - b ≤ 9223372036854775807) (x : WT P hb (k (.int .i64 (a - b))) d ro S R Ev) : WT P hb (.pu (.bin .sub (.int .i64 a) (.int .i64 b)) k) d ro S R Ev :=
  W_pu (by show some (Value.int .i64 (IntKind.i64.wrap (a - b))) = _; rw [i64_wrap h]) x
theorem W_mul {a b : Int} {k : Value → Tr} (h : -9223372036854775808 ≤ a * b ∧ a * b ≤ 9223372036854775807) (x : WT P hb (k (.int .i64 (a * b))) d ro S R Ev) : WT P hb (.pu (.bin .mul (.int .i64 a) (.int .i64 b)) k) d ro S R Ev :=
  W_pu (by show some (Value.int .i64 (IntKind.i64.wrap (a * b))) = _; rw [i64_wrap h]) x
theorem W_quo {a b : Int} {k : Value → Tr} (h : 0 ≤ a ∧ a ≤ 9223372036854775807 ∧ 0 < b) (x : WT P hb (k (.int .i64 (a / b))) d ro S R Ev) : WT P hb (.pu (.bin .quo (.int .i64 a) (.int .i64 b)) k) d ro S R Ev := by
  refine W_pu (v := .int .i64 (a / b)) ?_ x
  show (if b = 0 then none else some (Value.int .i64 (IntKind.i64.wrap (a.tdiv b)))) = _
  rw [if_neg (by omega), Int.tdiv_eq_ediv_of_nonneg h.1, i64_wrap]
  have h1 := Int.ediv_nonneg h.1 (show 0 ≤ b by omega)
  have h2 := Int.ediv_le_self b h.1
  omega
theorem W_rem {a b : Int} {q : IntKind} {k : Value → Tr} (h : 0 ≤ a ∧ 0 < b) (x : WT P hb (k (.int q (a % b))) d ro S R Ev) : WT P hb (.pu (.bin .rem (.int q a) (.int q b)) k) d ro S R Ev := by
  refine W_pu (v := .int q (a % b)) ?_ x
  show (if q = q then (if b = 0 then none else some (Value.int q (a.tmod b))) else none) = _
  rw [if_pos rfl, if_neg (by omega), Int.tmod_eq_emod_of_nonneg h.1]

theorem W_ite {c : Value} {t e : Tr} (b : Bool) (hc : c = .bool b) (h1 : b = true → WT P hb t d ro S R Ev) (h2 : b = false → WT P hb e d ro S R Ev) : WT P hb (.ite c t e) d ro S R Ev := Cl.intro ⟨b, hc, h1, h2⟩
theorem W_iteP {p : Prop} [Decidable p] {t e : Tr} (h1 : p → WT P hb t d ro S R Ev) (h2 : ¬ p → WT P hb e d ro S R Ev) : WT P hb (.ite (.bool (decide p)) t e) d ro S R Ev :=
  W_ite (decide p) rfl (fun h => h1 (by simpa using h)) (fun h => h2 (by simpa using h))
theorem W_iteB {b : Bool} {t e : Tr} (h1 : b = true → WT P hb t d ro S R Ev) (h2 : b = false → WT P hb e d ro S R Ev) : WT P hb (.ite (.bool b) t e) d ro S R Ev := W_ite b rfl h1 h2
theorem W_iteN {b : Bool} {t e : Tr} (h1 : b = false → WT P hb t d ro S R Ev) (h2 : b = true → WT P hb e d ro S R Ev) : WT P hb (.ite (.bool (!b)) t e) d ro S R Ev :=
  W_ite (!b) rfl (fun h => h1 (by simpa using h)) (fun h => h2 (by simpa using h))
theorem W_iteNP {p : Prop} [Decidable p] {t e : Tr} (h1 : ¬ p → WT P hb t d ro S R Ev) (h2 : p → WT P hb e d ro S R Ev) : WT P hb (.ite (.bool (!decide p)) t e) d ro S R Ev :=
  W_ite (!decide p) rfl (fun h => h1 (by simpa using h)) (fun h => h2 (by simpa using h))
theorem W_iteE {α : Type} [BEq α] [LawfulBEq α] {a b : α} {t e : Tr} (h1 : a = b → WT P hb t d ro S R Ev) (h2 : a ≠ b → WT P hb e d ro S R Ev) : WT P hb (.ite (.bool (a == b)) t e) d ro S R Ev :=
  W_ite (a == b) rfl (fun h => h1 (by simpa using h)) (fun h => h2 (by simpa using h))
theorem W_iteNe {α : Type} [BEq α] [LawfulBEq α] {a b : α} {t e : Tr} (h1 : a ≠ b → WT P hb t d ro S R Ev) (h2 : a = b → WT P hb e d ro S R Ev) : WT P hb (.ite (.bool (a != b)) t e) d ro S R Ev :=
  W_ite (a != b) rfl (fun h => h1 (by simpa using h)) (fun h => h2 (by simpa using h))
theorem W_iteT {t e : Tr} (h1 : WT P hb t d ro S R Ev) : WT P hb (.ite (.bool true) t e) d ro S R Ev := W_ite true rfl (fun _ => h1) (fun h => (by cases h))
theorem W_iteF {t e : Tr} (h1 : WT P hb e d ro S R Ev) : WT P hb (.ite (.bool false) t e) d ro S R Ev := W_ite false rfl (fun h => (by cases h)) (fun _ => h1)

theorem W_fad {b off m : Nat} {k : Value → Tr} (x : WT P hb (k (.pointer (some ⟨b, off + m, none⟩))) d ro S R Ev) : WT P hb (.pu (.fad m (.pointer (some ⟨b, off, none⟩))) k) d ro S R Ev :=
  W_pu (by simp only [Pu.ev, Addr.add_eq]) x
theorem W_fad0 {b m : Nat} {k : Value → Tr} (x : WT P hb (k (.pointer (some ⟨b, m, none⟩))) d ro S R Ev) : WT P hb (.pu (.fad m (.pointer (some ⟨b, 0, none⟩))) k) d ro S R Ev :=
  W_pu (by simp only [Pu.ev, Addr.add_eq, Nat.zero_add]) x
theorem W_nck {a : Addr} {k : Value → Tr} (x : WT P hb (k (.pointer (some a))) d ro S R Ev) : WT P hb (.pu (.nck (.pointer (some a))) k) d ro S R Ev := W_pu rfl x
theorem W_aad {n es b off : Nat} {q : IntKind} {i : Int} {k : Value → Tr} (h : 0 ≤ i ∧ i < n) (x : WT P hb (k (.pointer (some ⟨b, off + i.toNat * es, none⟩))) d ro S R Ev) :
    WT P hb (.pu (.aad n es (.pointer (some ⟨b, off, none⟩)) (.int q i)) k) d ro S R Ev := by
  refine W_pu ?_ x
  simp only [Pu.ev]
  rw [if_pos h, Addr.add_eq]

/-! ### reading -/
theorem W_rd {r : Rd} {k : Value → Tr} {v : Value} (h : ∀ w, (if d then Has ro w else ∃ F, Holds ro (S ++ [F]) w) → r.ev (hof w) = some v) (x : WT P hb (k v) d ro S R Ev) : WT P hb (.rd r k) d ro S R Ev := Cl.intro ⟨v, h, x⟩
theorem W_ld {b off : Nat} {l : List Value} {v : Value} {k : Value → Tr} (m : See d ro S b l) (h : l[off]? = some v) (x : WT P hb (k v) d ro S R Ev) : WT P hb (.rd (.ld false 1 (.pointer (some ⟨b, off, none⟩))) k) d ro S R Ev := by
  refine W_rd (fun w hw => ?_) x
  obtain ⟨o, e, p⟩ := m w hw
  obtain ⟨hlt, hv⟩ := List.getElem?_eq_some_iff.1 h
  have hr := rdN_blk (off := off) (n := 1) e p hlt
  simp only [Rd.ev, hr]
  rw [List.drop_eq_getElem_cons hlt, hv]
  rfl
theorem W_ldN {b off n : Nat} {l : List Value} {k : Value → Tr} (m : See d ro S b l) (hn : off + n ≤ l.length) (x : WT P hb (k (.agg ⟨(l.drop off).take n⟩)) d ro S R Ev) :
    WT P hb (.rd (.ld true n (.pointer (some ⟨b, off, none⟩))) k) d ro S R Ev := by
  refine W_rd (fun w hw => ?_) x
  obtain ⟨o, e, p⟩ := m w hw
  simp only [Rd.ev, rdN_blk (n := n) e p hn]
  rfl

/-! ### writing and making -/
theorem hs_upd {F : Asrt} {w0 w : World} {b : Nat} {p : Obj → Prop} {S' : List Asrt} (pk : Pick S (one b p) S') (hw : Hs ro S F w0 w) :
    ∃ o, w.heap[b]? = some o ∧ p o ∧ ∀ (o' : Obj) (q : Obj → Prop), q o' → Hs ro (one b q :: S') F w0 (wset w b o') := by
  have h := hw.ent pk.ent
  obtain ⟨o, e, po, up⟩ := h.2.upd
  refine ⟨o, e, po, fun o' q hq => ⟨hw.1, up o' q _ hq (hof_wset (Array.getElem?_eq_some_iff.1 e).1)⟩⟩

theorem isBlk_splice {l xs : List Value} {off e : Nat} {fz : Nat × Nat} (hf : fz.2 ≤ 0 ∨ l.length ≤ fz.1) (hn : off + xs.length ≤ l.length) : isBlk (splice l off xs) (.cells ⟨splice l off xs⟩ e fz) :=
  ⟨e, fz, rfl, by rw [splice_len hn]; exact hf⟩

theorem wr_blk {w : World} {b off e : Nat} {fz : Nat × Nat} {l xs : List Value} (h : w.heap[b]? = some (.cells ⟨l⟩ e fz)) (hf : fz.2 ≤ 0 ∨ l.length ≤ fz.1) (hn : off + xs.length ≤ l.length) (h1 : xs.all Value.oneCell' = true) :
    wrN w ⟨b, off, none⟩ xs = some (wset w b (.cells ⟨splice l off xs⟩ e fz)) := by
  unfold wrN
  rw [if_pos h1]
  simp only [h]
  rw [if_pos (by simp; omega)]

theorem W_st {b off : Nat} {l : List Value} {S' : List Asrt} {n : Nat} {v : Value} {k : Value → Tr} (pk : Pick S (blk b l) S') (hv : v.cells.toList.length = n) (hn : off + n ≤ l.length) (h1 : v.cells.toList.all Value.oneCell' = true)
    (x : WT P hb (k (.tuple #[])) d ro (blk b (splice l off v.cells.toList) :: S') R Ev) : WT P hb (.hv (.st n (.pointer (some ⟨b, off, none⟩)) v) k) d ro S R Ev := by
  intro F w0 w hw
  obtain ⟨o, e, ⟨t, fz, rfl, hf⟩, up⟩ := hs_upd pk hw
  refine ⟨_, _, _, ?_, up _ _ (isBlk_splice (e := t) hf (by omega)), x⟩
  simp only [Hv.run, hv, if_true]
  rw [wr_blk e hf (by omega) h1]
  rfl
/-- all of a block is written -/
theorem W_stA {b : Nat} {l l' : List Value} {S' : List Asrt} {n : Nat} {v : Value} {k : Value → Tr} (pk : Pick S (blk b l) S') (hv : v.cells.toList = l') (hl : l'.length = n) (hn : l.length = n) (h1 : l'.all Value.oneCell' = true)
    (x : WT P hb (k (.tuple #[])) d ro (blk b l' :: S') R Ev) : WT P hb (.hv (.st n (.pointer (some ⟨b, 0, none⟩)) v) k) d ro S R Ev := by
  subst hv
  refine W_st pk hl (by omega) h1 ?_
  rw [splice, List.take_zero, List.drop_eq_nil_of_le (by omega), List.nil_append, List.append_nil]
  exact x
theorem W_stAgg {b : Nat} {l l' : List Value} {S' : List Asrt} {n : Nat} {k : Value → Tr} (pk : Pick S (blk b l) S') (hl : l'.length = n) (hn : l.length = n) (h1 : l'.all Value.oneCell' = true)
    (x : WT P hb (k (.tuple #[])) d ro (blk b l' :: S') R Ev) : WT P hb (.hv (.st n (.pointer (some ⟨b, 0, none⟩)) (.agg ⟨l'⟩)) k) d ro S R Ev := W_stA pk rfl hl hn h1 x
/-- a cell is written -/
theorem W_st1 {b off : Nat} {l : List Value} {S' : List Asrt} {v : Value} {k : Value → Tr} (pk : Pick S (blk b l) S') (h1 : v.oneCell' = true) (hn : off < l.length) 
    (x : WT P hb (k (.tuple #[])) d ro (blk b (l.set off v) :: S') R Ev) : WT P hb (.hv (.st 1 (.pointer (some ⟨b, off, none⟩)) v) k) d ro S R Ev := by
  have hc : v.cells.toList = [v] := by
    revert h1
    cases v <;> simp [Value.oneCell', Value.cells]
  refine W_st pk (by rw [hc]; rfl) (by omega) (by rw [hc]; simp [h1]) ?_
  rw [hc, splice]
  have : l.take off ++ [v] ++ l.drop (off + [v].length) = l.set off v := by
    rw [List.set_eq_take_append_cons_drop, if_pos hn]
    simp
  rw [this]
  exact x

theorem W_al {a : Al} {k : Value → Tr} {o : Obj} {f : Nat → Value} (h : a.ev = some (o, f)) (x : ∀ b, WT P hb (k (f b)) d ro (one b (· = o) :: S) R Ev) : WT P hb (.al a k) d ro S R Ev := Cl.intro ⟨o, f, h, x⟩
theorem one_blk {b e : Nat} {l : List Value} {S : List Asrt} : Ent (one b (· = .cells ⟨l⟩ e) :: S) (blk b l :: S) := Ent.one (fun _ ⟨o, e', h⟩ => ⟨o, e', e, (0, 0), h, .inl (by simp)⟩) _
theorem W_nw {t : Nat} {cells : List Value} {k : Value → Tr} (x : ∀ b, WT P hb (k (.pointer (some ⟨b, 0, none⟩))) d ro (blk b cells :: S) R Ev) : WT P hb (.al (.nw t cells) k) d ro S R Ev :=
  W_al rfl fun b => W_ent one_blk (x b)
theorem W_bx {t : Nat} {v : Value} {l : List Value} {k : Value → Tr} (hv : v.cells.toList = l) (x : ∀ b, WT P hb (k (.pointer (some ⟨b, 0, none⟩))) d ro (blk b l :: S) R Ev) : WT P hb (.al (.bx t v) k) d ro S R Ev :=
  W_al rfl fun b => W_ent one_blk (hv ▸ x b)
theorem W_bxAgg {t : Nat} {l : List Value} {k : Value → Tr} (x : ∀ b, WT P hb (k (.pointer (some ⟨b, 0, none⟩))) d ro (blk b l :: S) R Ev) : WT P hb (.al (.bx t (.agg ⟨l⟩)) k) d ro S R Ev :=
  W_al rfl fun b => W_ent one_blk (x b)
theorem W_bsl {e es n : Nat} {ez l : List Value} {ps : List (Nat × Nat × Value)} {k : Value → Tr} (h : bldV (repL ez n) ps = some l) (h0 : n * es ≤ 2 ^ 24 ∧ ez.length = es ∧ 0 < es)
    (x : ∀ b, WT P hb (k (.slice (some ⟨b, 0, none⟩) n n)) d ro (blk b l :: S) R Ev) : WT P hb (.al (.bsl e es n ez ps) k) d ro S R Ev := by
  refine W_al (o := .cells ⟨l⟩ e) (f := fun b => .slice (some ⟨b, 0, none⟩) n n) ?_ fun b => W_ent one_blk (x b)
  simp only [Al.ev]
  rw [if_pos h0, h]
  rfl
theorem W_mks {e es eb : Nat} {ez : List Value} {l c : Int} {k : Value → Tr} (h : 0 ≤ l ∧ l ≤ c ∧ eb * c ≤ 2 ^ 48 ∧ c ≤ 2 ^ 62 ∧ ez.length = es ∧ 0 < es)
    (x : ∀ b, WT P hb (k (.slice (some ⟨b, 0, none⟩) l.toNat c.toNat)) d ro (blk b (repL ez c.toNat) :: S) R Ev) : WT P hb (.al (.mks e es eb ez (.int .i64 l) (.int .i64 c)) k) d ro S R Ev := by
  refine W_al (o := .cells ⟨repL ez c.toNat⟩ e) (f := fun b => .slice (some ⟨b, 0, none⟩) l.toNat c.toNat) ?_ fun b => W_ent one_blk (x b)
  simp only [Al.ev]
  rw [if_pos h]
theorem W_mmk {k : Value → Tr} (x : ∀ b, WT P hb (k (.map (some b))) d ro (mp b [] 0 :: S) R Ev) : WT P hb (.al .mmk k) d ro S R Ev := W_al rfl fun b => x b

/-! ### calls -/
theorem W_call {f : Nat} {args : List Value} {k : Value → Tr} {Sp S' : List Asrt} {Q : Value → List Asrt → Prop} (c : Tri P ro f ⟨args⟩ Sp Q) (s : Sub S Sp S') (x : ∀ v S1, Q v S1 → WT P hb (k v) d ro (S1 ++ S') R Ev) :
    WT P hb (.call f args k) d ro S R Ev :=
  Cl.intro (Tri.ent s.ent ((c.frame S').mono fun v _ ⟨S1, e, q⟩ => by rw [e]; exact x v S1 q))
theorem W_callv {f : Nat} {args : List Value} {fs cap : Array Value} {k : Value → Tr} {Sp S' : List Asrt} {Q : Value → List Asrt → Prop} (hf : hb f = true) (c : Tri P ro f ⟨fs.toList ++ args ++ cap.toList⟩ Sp Q) (s : Sub S Sp S')
    (x : ∀ v S1, Q v S1 → WT P hb (k v) d ro (S1 ++ S') R Ev) : WT P hb (.callv (.func (.func f) fs cap) args k) d ro S R Ev := by
  refine Cl.intro ⟨f, fs, cap, rfl, hf, ?_⟩
  have e : fs ++ (⟨args⟩ : Array Value) ++ cap = ⟨fs.toList ++ args ++ cap.toList⟩ := by apply Array.ext'; simp
  rw [e]
  exact Tri.ent s.ent ((c.frame S').mono fun v _ ⟨S1, e, q⟩ => by rw [e]; exact x v S1 q)
theorem W_inv {t f : Nat} {a : Addr} {m : String} {args : List Value} {k : Value → Tr} {Sp S' : List Asrt} {Q : Value → List Asrt → Prop} (hm : MethodAt P t m f) (hf : hb f = true) (c : Tri P ro f ⟨.pointer (some a) :: args⟩ Sp Q) (s : Sub S Sp S')
    (x : ∀ v S1, Q v S1 → WT P hb (k v) d ro (S1 ++ S') R Ev) : WT P hb (.inv (.iface t (.pointer (some a))) m args k) d ro S R Ev := by
  refine Cl.intro ⟨t, a, f, rfl, hm, hf, ?_⟩
  have e : #[Value.pointer (some a)] ++ (⟨args⟩ : Array Value) = ⟨.pointer (some a) :: args⟩ := by apply Array.ext'; simp
  rw [e]
  exact Tri.ent s.ent ((c.frame S').mono fun v _ ⟨S1, e, q⟩ => by rw [e]; exact x v S1 q)

/-! ### contracts that name what they answer -/
/-- f, handed args in the state S, answers (post b).1 in the state (post b).2, for some b -/
def PostF {β : Type} (post : β → Value × List Asrt) (v : Value) (S : List Asrt) : Prop := ∃ b, v = (post b).1 ∧ S = (post b).2
def Fn (P : Program) (ro : HP) (f : Nat) (args : List Value) (S : List Asrt) {β : Type} (post : β → Value × List Asrt) : Prop := Tri P ro f ⟨args⟩ S (PostF post)
theorem W_fn {β : Type} {f : Nat} {args : List Value} {k : Value → Tr} {Sp S' : List Asrt} {post : β → Value × List Asrt} (c : Fn P ro f args Sp post) (s : Sub S Sp S') (x : ∀ b, WT P hb (k (post b).1) d ro ((post b).2 ++ S') R Ev) :
    WT P hb (.call f args k) d ro S R Ev := W_call c s fun _ _ ⟨b, e1, e2⟩ => by rw [e1, e2]; exact x b
theorem W_fnv {β : Type} {f : Nat} {args : List Value} {fs cap : Array Value} {k : Value → Tr} {Sp S' : List Asrt} {post : β → Value × List Asrt} (hf : hb f = true) (c : Fn P ro f (fs.toList ++ args ++ cap.toList) Sp post) (s : Sub S Sp S')
    (x : ∀ b, WT P hb (k (post b).1) d ro ((post b).2 ++ S') R Ev) : WT P hb (.callv (.func (.func f) fs cap) args k) d ro S R Ev := W_callv hf c s fun _ _ ⟨b, e1, e2⟩ => by rw [e1, e2]; exact x b
theorem W_fni {β : Type} {t f : Nat} {a : Addr} {m : String} {args : List Value} {k : Value → Tr} {Sp S' : List Asrt} {post : β → Value × List Asrt} (hm : MethodAt P t m f) (hf : hb f = true) (c : Fn P ro f (.pointer (some a) :: args) Sp post) (s : Sub S Sp S')
    (x : ∀ b, WT P hb (k (post b).1) d ro ((post b).2 ++ S') R Ev) : WT P hb (.inv (.iface t (.pointer (some a))) m args k) d ro S R Ev := W_inv hm hf c s fun _ _ ⟨b, e1, e2⟩ => by rw [e1, e2]; exact x b

/-! ### ways -/
theorem W_ret {v : Value} {S' : List Asrt} (e : Ent S S') (h : R v S') : WT P hb (.ret v) false ro S R Ev := fun _ _ _ hs => ⟨S', ⟨rfl, h⟩, hs.ent e⟩
theorem W_retF {β : Type} {post : β → Value × List Asrt} {v : Value} (b : β) {S' : List Asrt} (hv : v = (post b).1) (s : Sub S (post b).2 S') : WT P hb (.ret v) false ro S (PostF post) Ev :=
  W_ret s.ent' ⟨b, hv, rfl⟩
theorem W_retE {β : Type} {post : β → Value × List Asrt} {v : Value} (b : β) (hv : v = (post b).1) (e : Ent S (post b).2) : WT P hb (.ret v) false ro S (PostF post) Ev :=
  W_ret e ⟨b, hv, rfl⟩
/-- where a region's values go -/
def drawE (n : Nat) (X : List Value → List Asrt → Prop) : Nat → List Value → List Asrt → Prop := fun m vs S => m = n ∧ X vs S
theorem W_fin {n : Nat} {vs : List Value} (h : Ev n vs S) : WT P hb (.fin n vs) d ro S R Ev := Cl.intro h
theorem W_fin_same {n : Nat} {vs : List Value} {X : List Value → List Asrt → Prop} (h : X vs S) : WT P hb (.fin n vs) d ro S R (updE Ev n X) := W_fin (by rw [updE_same]; exact h)
theorem W_fin_up {n m : Nat} {vs : List Value} {X : List Value → List Asrt → Prop} (e : m ≠ n) (h : WT P hb (.fin m vs) d ro S R Ev) : WT P hb (.fin m vs) d ro S R (updE Ev n X) := fun F w0 w hs => by
  obtain ⟨S', x, r⟩ := h F w0 w hs
  exact ⟨S', by rw [updE_other e]; exact x, r⟩
theorem W_fin_draw {n : Nat} {vs : List Value} {X : List Value → List Asrt → Prop} (h : X vs S) : WT P hb (.fin n vs) d ro S R (drawE n X) := W_fin ⟨rfl, h⟩
theorem W_finE {n : Nat} {vs : List Value} {S' : List Asrt} (e : Ent S S') (h : Ev n vs S') : WT P hb (.fin n vs) d ro S R Ev := Cl.ent e (Cl.intro h)
theorem W_join {n : Nat} {p : Tr} {k : List Value → (Nat → Value) → Tr} (h : WT P hb p d ro S R (updE Ev n fun vs S' => ∀ j, WT P hb (k vs j) d ro S' R Ev)) : WT P hb (.join n p k) d ro S R Ev := h
/-- with a post of one's own -/
theorem W_cut {n : Nat} {p : Tr} {k : List Value → (Nat → Value) → Tr} (X : List Value → List Asrt → Prop) (h1 : WT P hb p d ro S R (updE Ev n X)) (h2 : ∀ vs S' j, X vs S' → WT P hb (k vs j) d ro S' R Ev) : WT P hb (.join n p k) d ro S R Ev :=
  WT.mono p (fun _ _ h => h) (leE_upd (leE_refl _) fun vs S' h j => h2 vs S' j h) h1
theorem W_loop {n : Nat} {vs : List Value} {body k : List Value → (Nat → Value) → Tr} (I : Nat → List Value → List Asrt → Prop) (m : Nat) {S0 : List Asrt} (e : Ent S S0) (h0 : I m vs S0)
    (hr : ∀ m vs j S', I m vs S' → WT P hb (body vs j) false ro S' R (updE (updE Ev n fun vs' S'' => ∃ m', m' < m ∧ I m' vs' S'') (n + 1) fun vs' S'' => ∀ j, WT P hb (k vs' j) false ro S'' R Ev)) :
    WT P hb (.loop n vs body k) false ro S R Ev := fun _ _ _ hs => ⟨S0, ⟨rfl, I, ⟨m, h0⟩, hr⟩, hs.ent e⟩
theorem W_draw {n : Nat} {p : Tr} {k : List Value → (Nat → Value) → Tr} (B : List Asrt) {S2 : List Asrt} (s : Sub S B S2)
    (h : ∀ ro', hle ro ro' → big B ro' → WT P hb p true ro' S2 (fun _ _ => False) (drawE n fun vs S' => ∀ j, WT P hb (k vs j) false ro (B ++ S') R Ev)) : WT P hb (.draw n p k) false ro S R Ev :=
  Cl.intro ⟨rfl, B, S2, s.ent, h⟩
end

theorem sl_zero (a : Value) (l : List Value) : sl (a :: l) 0 = a := rfl
theorem sl_succ (a : Value) (l : List Value) (n : Nat) : sl (a :: l) (n + 1) = sl l n := rfl

end Go.Lb
