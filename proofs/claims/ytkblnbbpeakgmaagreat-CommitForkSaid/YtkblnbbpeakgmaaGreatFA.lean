/- From a walked law to its row: memory that came in is frozen, and is as it was. No statement of the seat is proved in this file. -/
import Derived.Test.YtkblnbbpeakgmaaGreatY
import Derived.Below
set_option linter.all false
namespace Go.Lb

/-- all memory, frozen -/
def roOf (w : World) : HP := fun b => (w.heap[b]?).map fun o => (true, o)
theorem roOf_has (w : World) : Has (roOf w) w := by
  intro b f o h
  unfold roOf at h
  unfold hof
  cases e : w.heap[b]? with
  | none => rw [e] at h; cases h
  | some x => rw [e] at h; simp at h; rw [h.2]
theorem roOf_dj (w : World) : hdj (roOf w) (roOf w) := by
  intro b
  unfold roOf
  cases e : w.heap[b]? with
  | none => exact .inl (by simp)
  | some x => exact .inr (.inr ⟨rfl, x, by simp⟩)
theorem roOf_big (w : World) : ∀ (S : List Asrt), (∀ A ∈ S, A (roOf w)) → big S (roOf w)
  | [], _ => trivial
  | A :: S, h => ⟨roOf w, roOf w, h A (by simp), roOf_big w S fun B hB => h B (by simp [hB]), roOf_dj w, hle_refl _, hle_refl _⟩
theorem has_below {w w' : World} (h : Has (roOf w) w') (s : Same w w') : RowKit.Below w.heap.size w w' := by
  have blk : ∀ k, k < w.heap.size → w'.heap[k]? = w.heap[k]? := by
    intro k hk
    have e : w.heap[k]? = some w.heap[k] := Array.getElem?_eq_getElem hk
    rw [e]
    exact h k true w.heap[k] (by unfold roOf; rw [e]; rfl)
  refine ⟨s.2.1, s.1, s.2.2, ?_, blk⟩
  rcases Nat.lt_or_ge w'.heap.size w.heap.size with hlt | hge
  · have := blk w'.heap.size hlt
    rw [Array.getElem?_eq_none (Nat.le_refl _), Array.getElem?_eq_getElem hlt] at this
    cases this
  · exact hge
/-- a law that is true -/
theorem law_calls {P : Program} {f : Nat} {args : List Value} {S S' : List Asrt} {w : World} (hS : ∀ A ∈ S, A (roOf w)) (h : ∀ ro, Fn P ro f args S fun _ : Unit => (.bool true, S')) :
    Calls P f ⟨args⟩ w fun e w' => e = .returned (.bool true) ∧ RowKit.Below w.heap.size w w' := by
  refine (h (roOf w) emp w w ⟨⟨rfl, rfl, rfl⟩, roOf w, ?_, roOf_dj w, roOf_has w, roOf_has w⟩).mono ?_
  · refine roOf_big w _ fun A hA => ?_
    rcases List.mem_append.1 hA with hA | hA
    · exact hS A hA
    · rw [List.mem_singleton.1 hA]; trivial
  · rintro e w' ⟨v, S2, rfl, ⟨b, e1, e2⟩, hs⟩
    exact ⟨by rw [e1], has_below hs.2.ro hs.1⟩

/-! ### slices of numbers that came in -/
def IsRow (k : IntKind) (w : World) (a : Option Addr) (len cap : Nat) (zs : List Int) : Prop :=
  (a = none ∧ len = 0 ∧ cap = 0 ∧ zs = []) ∨
  ∃ x, a = some x ∧ len ≤ cap ∧ cap ≤ maxLen ∧ zs.length = cap ∧ (∀ i, i < zs.length → w.cell? (x.add i) = some (.int k (zs.getD i 0))) ∧ ∀ n ∈ zs, (Lit.int k n).wf = true
/-- what a number of a kind is as a thing of ours -/
theorem cells_at {w : World} {b off : Nat} {cs : List Value} (h : ∀ i (hi : i < cs.length), w.cell? ((⟨b, off, none⟩ : Addr).add i) = some cs[i]) (h0 : 0 < cs.length) :
    ∃ l e z pre post, w.heap[b]? = some (.cells ⟨l⟩ e z) ∧ l = pre ++ cs ++ post ∧ pre.length = off := by
  have c0 := h 0 h0
  have hadd : ∀ i, (⟨b, off, none⟩ : Addr).add i = ⟨b, off + i, none⟩ := fun i => Addr.add_eq b off i
  rw [hadd] at c0
  unfold World.cell? at c0
  simp only at c0
  cases hb : w.heap[b]? with
  | none => rw [hb] at c0; simp at c0
  | some o =>
    rw [hb] at c0
    cases o with
    | cells c e z =>
      simp only at c0
      have hcell : ∀ i (hi : i < cs.length), c[off + i]? = some cs[i] := by
        intro i hi
        have := h i hi
        rw [hadd] at this
        unfold World.cell? at this
        simp only [hb] at this
        exact this
      have hlen : off + cs.length ≤ c.size := by
        have := hcell (cs.length - 1) (by omega)
        have := (Array.getElem?_eq_some_iff.1 this).1
        omega
      refine ⟨c.toList, e, z, c.toList.take off, c.toList.drop (off + cs.length), rfl, ?_, by simp; omega⟩
      have hmid : (c.toList.drop off).take cs.length = cs := by
        apply List.ext_getElem?
        intro i
        by_cases hi : i < cs.length
        · rw [List.getElem?_take, if_pos hi, List.getElem?_drop, List.getElem?_eq_getElem hi]
          simpa using hcell i hi
        · rw [List.getElem?_eq_none (by simp; omega), List.getElem?_eq_none (by omega)]
      conv => lhs; rw [← List.take_append_drop off c.toList, ← List.take_append_drop cs.length (c.toList.drop off), hmid, List.drop_drop]
      simp
    | _ => simp at c0
theorem seen_row {α : Type} [Sc α] {k : IntKind} (f : Int → α) (hf : ∀ n, (Lit.int k n).wf = true → (val (f n) : Value) = .int k n) {w : World} {a : Option Addr} {len cap : Nat} {zs : List Int} (h : IsRow k w a len cap zs) :
    seen (.slice a len cap) ((zs.take len).map f) (roOf w) := by
  rcases h with ⟨rfl, rfl, rfl, rfl⟩ | ⟨⟨b, off, spot⟩, rfl, h1, h2, h3, h4, h5⟩
  · exact ⟨[], rfl, .inl ⟨⟨_, _, rfl⟩, rfl⟩⟩
  have hlen : ((zs.take len).map f).length = len := by simp; omega
  rcases Nat.eq_zero_or_pos len with rfl | hp
  · exact ⟨[], by simp; rfl, .inl ⟨⟨_, _, rfl⟩, by simp⟩⟩
  have hspot : spot = none := by
    have h0 := h4 0 (by omega)
    simp only [Addr.add] at h0
    unfold World.cell? at h0
    cases spot with
    | none => rfl
    | some s => simp at h0; split at h0 <;> cases h0
  subst hspot
  obtain ⟨l, e, z, pre, post, hb, hl, hpre⟩ := cells_at (w := w) (b := b) (off := off) (cs := (zs.take len).map fun n => Value.int k n) (fun i hi => by
    have hi' : i < len := by simpa [h3, Nat.min_eq_left h1] using hi
    rw [h4 i (by omega)]
    have : zs.getD i 0 = zs[i]'(by omega) := by simp [List.getD, List.getElem?_eq_getElem (show i < zs.length by omega)]
    rw [this]; simp) (by simp; omega)
  have hv : ((zs.take len).map f).map val = (zs.take len).map fun n => Value.int k n := by
    rw [List.map_map]
    apply List.map_congr_left
    intro n hn
    exact hf n (h5 n (List.mem_of_mem_take hn))
  refine ⟨_, reps_sc.2 rfl, .inr ⟨b, off, cap, pre, post, true, .cells ⟨l⟩ e z, by rw [hlen], by omega, hpre, ?_, e, z, ?_⟩⟩
  · unfold roOf
    rw [hb]; rfl
  · rw [hv, hl]
theorem row_i64 {w : World} {a : Option Addr} {len cap : Nat} {zs : List Int} (h : IsRow .i64 w a len cap zs) : seen (.slice a len cap) ((zs.take len).map id) (roOf w) := seen_row id (fun _ _ => rfl) h
theorem row_u64 {w : World} {a : Option Addr} {len cap : Nat} {zs : List Int} (h : IsRow .u64 w a len cap zs) : seen (.slice a len cap) ((zs.take len).map fun n => UInt64.ofNat n.toNat) (roOf w) :=
  seen_row _ (fun n hn => by
    have h2 : 0 ≤ n ∧ n ≤ 18446744073709551615 := by simpa [Lit.wf, IntKind.min, IntKind.max, IntKind.signed, IntKind.bits] using hn
    show Value.int .u64 _ = _
    congr 1
    simp
    omega) h
end Go.Lb
