/- Contracts: what the library does: Mul64, Repeat, Grow, Concat. No statement of the seat is proved in this file. -/
import Derived.Test.YtkblnbbpeakgmaaGreatCJ
set_option linter.all false
namespace Go.Lb
open Go.Proofs

/-! ### rules -/
theorem digits_spec : ∀ (n t : Nat) (acc : Array Value), ∃ L : List UInt8, L.length = n ∧ (Extern.BytealgMakeNoZero.digits n t acc).toList = acc.toList ++ L.map val
  | 0, t, acc => ⟨[], rfl, by simp [Extern.BytealgMakeNoZero.digits]⟩
  | n + 1, t, acc => by
    obtain ⟨L, h1, h2⟩ := digits_spec n (t / 256) (acc.push (.int .u8 (Int.ofNat (t % 256))))
    refine ⟨UInt8.ofNat (t % 256) :: L, by simp [h1], ?_⟩
    rw [Extern.BytealgMakeNoZero.digits, h2]
    have : val (UInt8.ofNat (t % 256)) = .int .u8 (Int.ofNat (t % 256)) := by
      show Value.int .u8 ((UInt8.ofNat (t % 256)).toNat : Int) = _
      rw [UInt8.toNat_ofNat']
      congr 1
      simp
    simp [this]
section
variable {P : Program} {hb : Nat → Bool} {d : Bool} {ro : HP} {S : List Asrt} {R : Value → List Asrt → Prop} {Ev : Nat → List Value → List Asrt → Prop}
theorem W_mnz {e : Nat} {n : Nat} {k : Value → Tr} (hn : n ≤ 2 ^ 40) (x : ∀ v (xs : List UInt8), xs.length = n → WT P hb (k v) d ro (own v xs :: S) R Ev) : WT P hb (.hv (.mnz e (.int .i64 n)) k) d ro S R Ev := by
  intro F w0 w hs
  have hcap' : n ≤ Question.cut (.appendCap n 0 e) (w.tape w.drawn (.appendCap n 0 e)) := grown_cap
  generalize hcap : Question.cut (.appendCap n 0 e) (w.tape w.drawn (.appendCap n 0 e)) = cap at hcap'
  generalize hby : Question.cut (.extern "internal/bytealg.MakeNoZero.bytes" 0) (w.tape (w.drawn + 1) (.extern "internal/bytealg.MakeNoZero.bytes" 0)) = bytes
  obtain ⟨L, hL, hd⟩ := digits_spec cap bytes #[]
  have hda : Extern.BytealgMakeNoZero.digits cap bytes #[] = ⟨L.map val⟩ := by apply Array.ext'; simpa using hd
  refine ⟨.slice (some ⟨w.heap.size, 0, none⟩) n cap, { w with heap := w.heap.push (.cells ⟨L.map val⟩ e), drawn := w.drawn + 1 + 1 }, own (.slice (some ⟨w.heap.size, 0, none⟩) n cap) (L.take n) :: S, ?_, ?_, x _ _ (by simp; omega)⟩
  · simp only [Hv.run]
    rw [if_pos (by omega)]
    simp only [Int.toNat_natCast, hcap, hby, hda]
  · have h2 := Hs.drawn (n := w.drawn + 1 + 1) (Hs.pushb (l := L.map val) (e := e) hs)
    refine h2.ent ?_
    have hl : (L.take n).length = n := by simp; omega
    have := ent_own (S := S) (b := w.heap.size) (off := 0) (cap := cap) (pre := []) (cells := (L.take n).map val) (post := (L.drop n).map val) (xs := L.take n) (by omega) rfl (by simp [Rep.es, Enc.es]; omega)
    rw [hl, List.nil_append, ← List.map_append, List.take_append_drop] at this
    exact (Ent.cons _ (ent_triv (reps_sc.2 rfl))).trans this
variable {α : Type} {rα : Rep α}
/-- all of a slice, no room behind it -/
theorem W_clipO {es : Nat} {v : Value} {xs : List α} {q q' : IntKind} {n m : Int} {S1 : List Asrt} {k : Value → Tr} (pk : Pick S (own v xs) S1) (he : es = Rep.es α) (hn : n = xs.length) (hm : m = xs.length) (h0 : xs ≠ [])
    (x : ∀ u, WT P hb (k u) d ro (own u xs :: S1) R Ev) : WT P hb (.pu (.slc es v none (some (.int q n)) (some (.int q' m))) k) d ro S R Ev := by
  subst he hn hm
  refine W_openS pk (fun _ h => absurd h h0) ?_
  rintro b off cap pre post cells rfl hcap hpre hpost hlen
  refine W_pu (v := .slice (some ⟨b, off, none⟩) xs.length xs.length) ?_ (W_ent ?_ (x _))
  · simp only [Pu.ev, slcV, bndV, intOfV]
    rw [if_pos ⟨by omega, by omega⟩]
    simp only [Int.toNat_natCast]
    rw [if_pos ⟨by omega, by omega⟩]
    simp [Addr.add]
  · have := ent_own (S := S1) (b := b) (off := off) (cap := xs.length) (pre := pre) (cells := cells) (post := post) (xs := xs) (Nat.le_refl _) hpre (by simp)
    exact this
/-- a part of what is owned is laid over another part of it -/
theorem W_cpySelf {es : Nat} {v : Value} {xs : List α} {q q' : IntKind} {i c : Nat} {S1 : List Asrt} {k : Value → Tr} (pk : Pick S (own v xs) S1) (he : es = Rep.es α) (hi : i < xs.length) (hc : c ≤ i) (hc0 : 0 < c)
    (x : WT P hb (k (.int .i64 (min c (xs.length - i) : Nat))) d ro (own v (lay xs i (xs.take c)) :: S1) R Ev) :
    WT P hb (.pu (.slc es v (some (.int q i)) none none) fun u => .pu (.slc es v none (some (.int q' c)) none) fun w => .hv (.cpy es u w) k) d ro S R Ev := by
  subst he
  have hpos := Rep.pos (α := α)
  refine W_openS pk (fun _ h => by subst h; simp at hi) ?_
  rintro b off cap pre post cells rfl hcap hpre hpost hlen
  refine W_pu (v := .slice (some ⟨b, off + i * Rep.es α, none⟩) (xs.length - i) (cap - i)) ?_ ?_
  · simp only [Pu.ev, slcV, bndV_none, bndV, intOfV]
    rw [if_pos ⟨by omega, by omega⟩]
    have : cap ≠ i := by omega
    simp [Addr.add_eq, this]
  refine W_pu (v := .slice (some ⟨b, off, none⟩) c cap) ?_ ?_
  · simp only [Pu.ev, slcV, bndV_none, bndV, intOfV]
    rw [if_pos ⟨by omega, by omega⟩]
    have : cap ≠ 0 := by omega
    simp [Addr.add, this]
  intro F w0 w hs
  have hcl : c * Rep.es α ≤ i * Rep.es α := Nat.mul_le_mul_right _ hc
  have hil : i * Rep.es α ≤ xs.length * Rep.es α := Nat.mul_le_mul_right _ (by omega)
  generalize hm : min c (xs.length - i) = m at x
  have hmc : m * Rep.es α ≤ c * Rep.es α := Nat.mul_le_mul_right _ (by omega)
  have hmi : (i + m) * Rep.es α ≤ xs.length * Rep.es α := Nat.mul_le_mul_right _ (by omega)
  rw [Nat.add_mul] at hmi
  have hm1 : 1 * Rep.es α ≤ m * Rep.es α := Nat.mul_le_mul_right _ (by omega)
  obtain ⟨o, eo, ⟨t, fz, rfl, hfz⟩, up⟩ := hs_upd (.hd) hs
  have hrd : rdN (hof w) ⟨b, off, none⟩ (m * Rep.es α) = some (cells.take (m * Rep.es α)) := by
    rw [rdN_blk (h := hof w) (b := b) (off := off) (n := m * Rep.es α) (l := pre ++ cells ++ post) eo ⟨t, fz, rfl⟩ (by simp; omega)]
    subst hpre
    have := take_drop_mid (pre := pre) (cells := cells) (post := post) (i := 0) (m := m * Rep.es α) (by omega)
    simp only [Nat.add_zero, List.drop_zero] at this
    rw [this]
  have hco : (cells.take (m * Rep.es α)).all Value.oneCell' = true := by
    have h1 := hs.ent (Ent.swap _ _ _)
    obtain ⟨_, ⟨_, _, r, _⟩, _⟩ := h1.2
    have := reps_oc r
    rw [← List.take_append_drop (m * Rep.es α) cells, List.all_append, Bool.and_eq_true] at this
    exact this.1
  have hcs : (cells.take (m * Rep.es α)).length = m * Rep.es α := by simp; omega
  refine ⟨.int .i64 (m : Nat), _, _, ?_, (up _ _ (isBlk_splice (off := off + i * Rep.es α) (xs := cells.take (m * Rep.es α)) (e := t) hfz (by rw [hcs]; simp; omega))).ent ?_, x⟩
  · have hne : cells.take (m * Rep.es α) ≠ [] := by intro h; rw [h] at hcs; simp at hcs; omega
    simp only [Hv.run, Nat.min_eq', hm, cellsOfV, hrd, hne, if_false]
    rw [wr_blk eo hfz (by rw [hcs]; simp; omega) hco]
    rfl
  · subst hpre
    rw [splice_mid (by rw [hcs]; omega)]
    have e1 : Ent (repsA xs cells :: S1) (repsA (lay xs i (xs.take c)) (splice cells (i * Rep.es α) (cells.take (m * Rep.es α))) :: S1) := by
      refine Ent.one (fun h r => ?_) _
      have r1 := reps_take m r (by omega)
      have := reps_splice (i := i) r r1 (by simp; omega)
      have e : lay xs i (xs.take c) = xs.take i ++ xs.take m ++ xs.drop (i + (xs.take m).length) := by
        unfold lay
        rw [List.take_take, Nat.min_comm, hm]
        congr 1
        rw [List.length_take, List.length_take]
        by_cases hh : c ≤ xs.length - i
        · congr 1; omega
        · rw [List.drop_eq_nil_of_le (by omega), List.drop_eq_nil_of_le (by omega)]
      rw [e]
      exact this
    refine (Ent.cons _ e1).trans ?_
    have hl := lay_len (xs := xs) (ys := xs.take c) (i := i) (by omega)
    have := ent_own (S := S1) (b := b) (off := pre.length) (cap := cap) (pre := pre) (cells := splice cells (i * Rep.es α) (cells.take (m * Rep.es α))) (post := post) (xs := lay xs i (xs.take c)) (by omega) rfl (by rw [hl]; exact hpost)
    rw [hl] at this
    exact this
/-- room for many -/
theorem W_apz0 {e es eb : Nat} {ez : List Value} {z : α} {n : Nat} {k : Value → Tr} (he : es = Rep.es α) (hz : ∀ g, Rep.rep z ez g) (hb' : 0 < eb) (hn : 0 < n) (hfit : 2 * n * eb ≤ 2 ^ 48)
    (x : ∀ v, WT P hb (k v) d ro (own v (List.replicate n z) :: S) R Ev) : WT P hb (.hv (.apz e es eb ez (.slice none 0 0) (.int .i64 n)) k) d ro S R Ev := by
  subst he
  have hpos := Rep.pos (α := α)
  have hezl : ez.length = Rep.es α := Rep.len (hz fun _ => none)
  intro F w0 w hs
  have hcap' : n ≤ Question.cut (.appendCap n 0 e) (w.tape w.drawn (.appendCap n 0 e)) := grown_cap
  generalize hcap : Question.cut (.appendCap n 0 e) (w.tape w.drawn (.appendCap n 0 e)) = cap at hcap'
  have hne : n * eb ≤ 2 ^ 48 := by have := Nat.mul_assoc 2 n eb; omega
  have hnn : n ≤ n * eb := Nat.le_mul_of_pos_right _ hb'
  have hfits := cap_fits (need := n) (old := 0) (eb := eb) hn hfit
  refine ⟨.slice (some ⟨w.heap.size, 0, none⟩) n cap, { w with heap := w.heap.push (.cells ⟨repL ez n ++ repL ez (cap - n)⟩ e), drawn := w.drawn + 1 }, own (.slice (some ⟨w.heap.size, 0, none⟩) n cap) (List.replicate n z) :: S, ?_, ?_, x _⟩
  · simp only [Hv.run, Int.toNat_natCast, Nat.zero_add]
    rw [if_pos ⟨hezl, hpos, hb', by omega, by omega, hn, by omega, by omega⟩]
    have h0 : cellsOfV (hof w) (Rep.es α) 0 (.slice none 0 0) = some [] := by simp [cellsOfV]
    simp only [h0, hcap]
    rfl
  · have h2 := Hs.drawn (n := w.drawn + 1) (Hs.pushb (l := repL ez n ++ repL ez (cap - n)) (e := e) hs)
    refine h2.ent ((Ent.cons _ (ent_triv (A := repsA (List.replicate n z) (repL ez n)) (reps_repL hz n fun _ => none))).trans ?_)
    have := ent_own (S := S) (b := w.heap.size) (off := 0) (cap := cap) (pre := []) (cells := repL ez n) (post := repL ez (cap - n)) (xs := List.replicate n z) (by simpa using hcap') rfl (by rw [repL_len, hezl]; simp)
    simpa using this
end
end Go.Lb
