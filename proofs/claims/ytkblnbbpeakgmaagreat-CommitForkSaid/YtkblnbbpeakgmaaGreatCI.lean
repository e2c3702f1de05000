/- Contracts: disk. No statement of the seat is proved in this file. -/
import Derived.Test.YtkblnbbpeakgmaaGreatCH
set_option linter.all false
namespace Go.Lb
open Go.Proofs
attribute [local irreducible] WT blk fzb own frz mp exL isA Ent Tri updE drawE At Kn See SeeS

structure Dk where
  lasts : List (List UInt8)
  waits : List DOp
  trace : List DOp
  refuses : Bool
def dskC (p : Nat) (r : Bool) (vs : List Value) (v2 v3 : Value) : List Value := .pointer (some ⟨p, 0, none⟩) :: (vs ++ [v2, v3, .bool r])
def dskL (d p : Nat) (x : Dk) (v : List Value × Value × Value) : List Asrt := [blk d (dskC p x.refuses v.1 v.2.1 v.2.2), repsA x.lasts v.1, own v.2.1 x.waits, own v.2.2 x.trace]
def dskA (d p : Nat) (x : Dk) : Asrt := exL (dskL d p x)
theorem ent_dsk {d p : Nat} {x : Dk} (vs : List Value) (v2 v3 : Value) (S : List Asrt) : Ent (blk d (dskC p x.refuses vs v2 v3) :: repsA x.lasts vs :: own v2 x.waits :: own v3 x.trace :: S) (dskA d p x :: S) := Ent.exL (X := dskL d p x) (vs, v2, v3) S
section
variable {p : Nat} {r : Bool} {vs : List Value} {v2 v3 : Value}
theorem dsk_len (h : vs.length = 32) : (dskC p r vs v2 v3).length = 36 := by simp [dskC, h]
theorem dsk33 (h : vs.length = 32) : (dskC p r vs v2 v3)[33]? = some v2 := by simp [dskC, List.getElem?_append, h]
theorem dsk34 (h : vs.length = 32) : (dskC p r vs v2 v3)[34]? = some v3 := by simp [dskC, List.getElem?_append, h]
theorem dsk35 (h : vs.length = 32) : (dskC p r vs v2 v3)[35]? = some (.bool r) := by simp [dskC, List.getElem?_append, h]
theorem dsk_i {i : Nat} {v : Value} (h : vs[i]? = some v) : (dskC p r vs v2 v3)[1 + i * 1]? = some v := by
  obtain ⟨hi, e⟩ := List.getElem?_eq_some_iff.1 h
  rw [Nat.mul_one, Nat.add_comm]
  simp [dskC, List.getElem?_append, hi, e]
theorem dsk_set33 (h : vs.length = 32) (v : Value) : (dskC p r vs v2 v3).set 33 v = dskC p r vs v v3 := by simp [dskC, List.set_append, h]
theorem dsk_set34 (h : vs.length = 32) (v : Value) : (dskC p r vs v2 v3).set 34 v = dskC p r vs v2 v := by simp [dskC, List.set_append, h]
theorem dsk_set35 (h : vs.length = 32) (b : Bool) : (dskC p r vs v2 v3).set 35 (.bool b) = dskC p b vs v2 v3 := by simp [dskC, List.set_append, h]
theorem dsk_seti {i : Nat} (h : i < vs.length) (v : Value) : (dskC p r vs v2 v3).set (1 + i * 1) v = dskC p r (vs.set i v) v2 v3 := by
  rw [Nat.mul_one, Nat.add_comm]
  simp [dskC, List.set_append, h]
end
def okD (x : Dk) : Prop := x.lasts.length = 32 ∧ x.waits.length ≤ 2 ^ 30 ∧ x.trace.length ≤ 2 ^ 30 ∧ (∀ b ∈ x.lasts, b.length = 32) ∧ ∀ o ∈ x.waits, 0 ≤ o.off ∧ o.off < 32 ∧ o.bytes.length = 32
def zBlock : List UInt8 := List.replicate 32 0
def zDk : Dk := ⟨List.replicate 32 zBlock, [], [], false⟩
/-- writes to blocks -/
@[irreducible] def setOps (l : List (List UInt8)) (ws : List DOp) : List (List UInt8) := ws.foldl (fun l o => l.set o.off.toNat o.bytes) l
theorem setOps_nil (l : List (List UInt8)) : setOps l [] = l := by rw [setOps]; rfl
theorem setOps_snoc (l : List (List UInt8)) (ws : List DOp) (o : DOp) : setOps l (ws ++ [o]) = (setOps l ws).set o.off.toNat o.bytes := by simp only [setOps, List.foldl_append]; rfl
theorem setOps_len (l : List (List UInt8)) (ws : List DOp) : (setOps l ws).length = l.length := by
  rw [setOps]
  induction ws generalizing l with
  | nil => rfl
  | cons o ws ih => rw [List.foldl_cons, ih, List.length_set]
abbrev isLba (lba : Int) : Prop := 0 ≤ lba ∧ lba < 32
def writeD (w : Pw) (x : Dk) (lba : Int) (bs : List UInt8) : Bool × Pw × Dk :=
  if isLba lba ∧ bs.length = 32 ∧ x.refuses = false then (if (spend w).1 then (true, (spend w).2, { x with waits := x.waits ++ [⟨lba, bs⟩], trace := x.trace ++ [⟨lba, bs⟩] }) else (false, (spend w).2, x)) else (false, w, x)
def barD (w : Pw) (x : Dk) : Bool × Pw × Dk :=
  if (spend w).1 then (true, (spend w).2, { x with lasts := setOps x.lasts x.waits, waits := [], trace := x.trace ++ [⟨-1, []⟩] }) else (false, (spend w).2, x)
def crashD (x : Dk) (keep : List Bool) : Dk := { x with lasts := setOps x.lasts (keepTo (kpf keep) x.waits x.waits.length), waits := [] }
/-- what is read of a block: what waits, else what lasts -/
@[irreducible] def lookD (b : List UInt8) (ws : List DOp) (lba : Int) : List UInt8 := ws.foldl (fun b o => if o.off = lba then o.bytes else b) b
theorem lookD_nil (b : List UInt8) (lba : Int) : lookD b [] lba = b := by rw [lookD]; rfl
theorem lookD_snoc (b : List UInt8) (ws : List DOp) (o : DOp) (lba : Int) : lookD b (ws ++ [o]) lba = if o.off = lba then o.bytes else lookD b ws lba := by simp only [lookD, List.foldl_append]; rfl
theorem lookD_len {b : List UInt8} {ws : List DOp} {lba : Int} (h : b.length = 32) (hw : ∀ o ∈ ws, o.bytes.length = 32) : (lookD b ws lba).length = 32 := by
  rw [lookD]
  induction ws generalizing b with
  | nil => exact h
  | cons o ws ih =>
    rw [List.foldl_cons]
    refine ih ?_ fun o' ho' => hw o' (by simp [ho'])
    split
    · exact hw o (by simp)
    · exact h
def readD (w : Pw) (x : Dk) (lba : Int) : List UInt8 × Bool :=
  if isLba lba ∧ w.gone = false then (lookD (x.lasts[lba.toNat]?.getD []) x.waits lba, true) else ([], false)

section
variable {P : Program} {hb : Nat → Bool} {d : Bool} {ro : HP} {S : List Asrt} {R : Value → List Asrt → Prop} {Ev : Nat → List Value → List Asrt → Prop}
theorem rows_len {xs : List (List UInt8)} {vs : List Value} {g : HP} (r : repsA xs vs g) : vs.length = xs.length := by
  have := reps_len r
  rwa [show Rep.es (List UInt8) = 1 from rfl, Nat.mul_one] at this
theorem reps_fz {xs : List (List UInt8)} {vs : List Value} {g : HP} {i : Nat} (r : reps xs vs g) (h : i < xs.length) : ∃ u, vs[i]? = some u ∧ frz u xs[i] g := by
  have hl := reps_len r
  have := reps_get (i := i) r (List.getElem?_eq_getElem h)
  obtain ⟨u, e, f⟩ := this
  have h1 : Rep.es (List UInt8) = 1 := rfl
  rw [h1] at e hl
  refine ⟨u, ?_, f⟩
  have := congrArg (fun l => l[0]?) e
  simpa using this
/-- a row's cell -/
theorem W_row {t : Tr} {xs : List (List UInt8)} {vs : List Value} {i : Nat} (m : At d ro S (repsA xs vs)) (h : i < xs.length) (x : ∀ u, vs[i]? = some u → WT P hb t d ro (frz u xs[i] :: S) R Ev) : WT P hb t d ro S R Ev := by
  refine W_dupAt (B := fun g => ∃ u, vs[i]? = some u ∧ frz u xs[i] g) m (fun g r => let ⟨u, e, f⟩ := reps_fz r h; ⟨u, e, frz_dup _ _ _ f⟩) (fun g ⟨u, e, f⟩ => ⟨u, e, frz_dup _ _ _ f⟩) ?_
  refine W_exA (X := fun u g => vs[i]? = some u ∧ frz u xs[i] g) fun u => ?_
  exact W_pure .hd (p := vs[i]? = some u) (fun g a => a.1) fun e => W_conv .hd (fun g a => a.2) (x u e)
theorem ent_rowset {xs : List (List UInt8)} {vs : List Value} {u : Value} {ys : List UInt8} {i : Nat} (h : i < xs.length) : Ent (frz u ys :: repsA xs vs :: S) (repsA (xs.set i ys) (vs.set i u) :: S) :=
  star_two (fun g _ _ f r => by
    have hl := reps_len r
    have h1 : Rep.es (List UInt8) = 1 := rfl
    rw [h1, Nat.mul_one] at hl
    have := reps_set (d := [u]) (i := i) r ⟨u, rfl, f⟩ h
    rw [h1, Nat.mul_one, splice] at this
    have e : vs.take i ++ [u] ++ vs.drop (i + [u].length) = vs.set i u := by
      rw [List.set_eq_take_append_cons_drop, if_pos (by omega)]
      simp
    rw [e] at this
    exact this) (fun l r => frz_mono l r) (fun l r => repsA_mono l r)
end

theorem k129 {ro : HP} (d : Nat) (lba : Int) : Fn Tryz.prog ro 129 [ptr d, .int .i64 lba] [] fun _ : Unit => (.bool (decide (isLba lba)), []) := by
  refine c129 _ _ ?_
  unfold t129
  (repeat' (first | refine st ?_ | (refine iw ?_ ?_ <;> intro h <;> try exact ko) | intro b))
  · exact W_retF () (by congr 1; rw [Bool.eq_iff_iff]; simp only [decide_eq_true_eq, isLba]; omega) sub'
  · exact W_retF () (by congr 1; rw [Bool.eq_iff_iff]; simp only [decide_eq_true_eq, isLba, Bool.false_eq_true, false_iff]; omega) sub'
theorem k63 {ro : HP} (d p : Nat) (x : Dk) (b : Bool) (ok : okD x) : Fn Tryz.prog ro 63 [ptr d, .bool b] [dskA d p x] fun _ : Unit => (.tuple #[], [dskA d p { x with refuses := b }]) := by
  refine c63 _ _ ?_
  unfold t63
  (refine W_exL (X := dskL d p x) pk' fun vs => ?_; obtain ⟨vs, v2, v3⟩ := vs; unfold dskL; refine nf ?_)
  refine W_at (A := repsA x.lasts vs) at' (fun g r => rows_len r) fun hv => ?_
  rw [ok.1] at hv
  have hl := dsk_len (p := p) (r := x.refuses) (v2 := v2) (v3 := v3) hv
  have hl' : 35 < (dskC p x.refuses vs v2 v3).length := by omega
  (repeat' (first | refine st ?_ | (refine iw ?_ ?_ <;> intro h <;> try exact ko) | intro b))
  rw [dsk_set35 hv]
  exact W_retE () rfl (ent_dsk (x := { x with refuses := b }) vs v2 v3 [])
theorem k59 {ro : HP} (d p : Nat) (w : Pw) (x : Dk) (lba : Int) (v : Value) (bs : List UInt8) (ok : okD x) :
    Fn Tryz.prog ro 59 [ptr d, .int .i64 lba, v] [dskA d p x, powA p w, frz v bs] fun _ : Unit => (.bool (writeD w x lba bs).1, [dskA d p (writeD w x lba bs).2.2, powA p (writeD w x lba bs).2.1, frz v bs]) := by
  refine c59 _ _ _ ?_
  unfold t59
  (repeat' (first | refine st ?_ | (refine iw ?_ ?_ <;> intro h <;> try exact ko) | intro b))
  refine fn (k129 d lba) fun _ => ?_
  refine nf ?_
  (repeat' (first | refine st ?_ | (refine iw ?_ ?_ <;> intro h <;> try exact ko) | intro b))
  · have e : writeD w x lba bs = (false, w, x) := by unfold writeD; rw [if_neg (by omega)]
    rw [e]
    (first | exact retU | exact retB)
  · have e : writeD w x lba bs = (false, w, x) := by unfold writeD; rw [if_neg (by omega)]
    rw [e]
    (first | exact retU | exact retB)
  · have hlba : isLba lba := by assumption
    have hbs : bs.length = 32 := by omega
    obtain ⟨ok1, ok2, ok3, ok4, ok5⟩ := ok
    (refine W_exL (X := dskL d p x) pk' fun vs => ?_; obtain ⟨vs, v2, v3⟩ := vs; unfold dskL; refine nf ?_)
    refine W_at (A := repsA x.lasts vs) at' (fun g r => rows_len r) fun hv => ?_
    rw [ok1] at hv
    have hl := dsk_len (p := p) (r := x.refuses) (v2 := v2) (v3 := v3) hv
    have h33 := dsk33 (p := p) (r := x.refuses) (v2 := v2) (v3 := v3) hv
    have h34 := dsk34 (p := p) (r := x.refuses) (v2 := v2) (v3 := v3) hv
    have h35 := dsk35 (p := p) (r := x.refuses) (v2 := v2) (v3 := v3) hv
    (repeat' (first | refine st ?_ | (refine iw ?_ ?_ <;> intro h <;> try exact ko) | intro b))
    · have e : writeD w x lba bs = (false, w, x) := by unfold writeD; rw [if_neg (by simp [*])]
      rw [e]
      exact W_retE () rfl ((en' (X := dskL d p x (vs, v2, v3) ++ [powA p w, frz v bs])).trans (ent_dsk vs v2 v3 _))
    · refine fn (k110 p w) fun _ => ?_
      refine nf ?_
      (repeat' (first | refine st ?_ | (refine iw ?_ ?_ <;> intro h <;> try exact ko) | intro b))
      · have e : writeD w x lba bs = (false, (spend w).2, x) := by unfold writeD; rw [if_pos ⟨hlba, hbs, by assumption⟩, if_neg (by simp [*])]
        rw [e]
        exact W_retE () rfl ((en' (X := dskL d p x (vs, v2, v3) ++ [powA p (spend w).2, frz v bs])).trans (ent_dsk vs v2 v3 _))
      · have e : writeD w x lba bs = (true, (spend w).2, { x with waits := x.waits ++ [⟨lba, bs⟩], trace := x.trace ++ [⟨lba, bs⟩] }) := by unfold writeD; rw [if_pos ⟨hlba, hbs, by assumption⟩, if_pos (by simp [*])]
        rw [e]
        refine W_draw [blk d (dskC p x.refuses vs v2 v3)] sub' fun ro' hle hb => ?_
        obtain ⟨k1, _⟩ := Kn.of_big hb
        (repeat' (first | refine st ?_ | (refine iw ?_ ?_ <;> intro h <;> try exact ko) | intro b))
        refine fn (k111F (v := v) (xs := bs) (by omega)) fun r => ?_
        refine nf ?_
        refine W_frzS (v := r) pk' ?_
        (refine W_slO (v := r) sees' ?_; rintro a n c rfl)
        (repeat' (first | refine st ?_ | (refine iw ?_ ?_ <;> intro h <;> try exact ko) | intro b))
        refine W_app1 (xs := x.waits) (y := (⟨lba, bs⟩ : DOp)) pk' (ent_op mem') rfl ⟨rfl, by decide, by decide⟩ (by omega) fun v2' => ?_
        (refine W_slO (v := v2') sees' ?_; rintro a n c rfl)
        refine fi ?_
        intro j
        refine nf ?_
        have hs : 33 < (dskC p x.refuses vs v2 v3).length := by omega
        (repeat' (first | refine st ?_ | (refine iw ?_ ?_ <;> intro h <;> try exact ko) | intro b))
        rw [dsk_set33 hv]
        have h34 := dsk34 (p := p) (r := x.refuses) (v2 := .slice a n c) (v3 := v3) hv
        refine W_draw [blk d (dskC p x.refuses vs (.slice a n c) v3)] sub' fun ro' hle hb => ?_
        obtain ⟨k1, _⟩ := Kn.of_big hb
        (repeat' (first | refine st ?_ | (refine iw ?_ ?_ <;> intro h <;> try exact ko) | intro b))
        refine fn (k111F (v := v) (xs := bs) (by omega)) fun r => ?_
        refine nf ?_
        refine W_frzS (v := r) pk' ?_
        refine W_slO (v := r) sees' ?_
        rintro a2 n2 c2 rfl
        (repeat' (first | refine st ?_ | (refine iw ?_ ?_ <;> intro h <;> try exact ko) | intro b))
        refine W_app1 (xs := x.trace) (y := (⟨lba, bs⟩ : DOp)) pk' (ent_op mem') rfl ⟨rfl, by decide, by decide⟩ (by omega) fun v3' => ?_
        refine W_slO (v := v3') sees' ?_
        rintro a3 n3 c3 rfl
        refine fi ?_
        intro j
        refine nf ?_
        have hs : 34 < (dskC p x.refuses vs (.slice a n c) v3).length := by rw [dsk_len hv]; omega
        (repeat' (first | refine st ?_ | (refine iw ?_ ?_ <;> intro h <;> try exact ko) | intro b))
        rw [dsk_set34 hv]
        exact W_retE () rfl ((en' (X := dskL d p { x with waits := x.waits ++ [⟨lba, bs⟩], trace := x.trace ++ [⟨lba, bs⟩] } (vs, .slice a n c, .slice a3 n3 c3) ++ [powA p (spend w).2, frz v bs])).trans (ent_dsk (x := { x with waits := x.waits ++ [⟨lba, bs⟩], trace := x.trace ++ [⟨lba, bs⟩] }) vs _ _ _))
theorem k60 {ro : HP} (d p : Nat) (w : Pw) (x : Dk) (ok : okD x) : Fn Tryz.prog ro 60 [ptr d] [dskA d p x, powA p w] fun _ : Unit => (.bool (barD w x).1, [dskA d p (barD w x).2.2, powA p (barD w x).2.1]) := by
  refine c60 _ ?_
  unfold t60
  obtain ⟨ok1, ok2, ok3, ok4, ok5⟩ := ok
  (refine W_exL (X := dskL d p x) pk' fun vs => ?_; obtain ⟨vs, v2, v3⟩ := vs; unfold dskL; refine nf ?_)
  refine W_at (A := repsA x.lasts vs) at' (fun g r => rows_len r) fun hv => ?_
  rw [ok1] at hv
  have h33 := dsk33 (p := p) (r := x.refuses) (v2 := v2) (v3 := v3) hv
  (repeat' (first | refine st ?_ | (refine iw ?_ ?_ <;> intro h <;> try exact ko) | intro b))
  refine fn (k110 p w) fun _ => ?_
  refine nf ?_
  (repeat' (first | refine st ?_ | (refine iw ?_ ?_ <;> intro h <;> try exact ko) | intro b))
  · have e : barD w x = (false, (spend w).2, x) := by unfold barD; rw [h]; rfl
    rw [e]
    exact W_retE () rfl ((en' (X := dskL d p x (vs, v2, v3) ++ [powA p (spend w).2])).trans (ent_dsk vs v2 v3 _))
  · have e : barD w x = (true, (spend w).2, { x with lasts := setOps x.lasts x.waits, waits := [], trace := x.trace ++ [⟨-1, []⟩] }) := by unfold barD; rw [h]; rfl
    rw [e]
    refine W_loopX x.waits.length (fun _ _ => True) (fun i _ => [.int .i64 i]) (fun i (vs : List Value) => [blk d (dskC p x.refuses vs v2 v3), repsA (setOps x.lasts (x.waits.take i)) vs, own v2 x.waits, own v3 x.trace, powA p (spend w).2]) vs trivial (by rw [show setOps x.lasts (x.waits.take 0) = x.lasts from setOps_nil _]; exact en') rfl ?_
    rintro i vs j hi -
    refine nf ?_
    refine W_at (A := repsA (setOps x.lasts (x.waits.take i)) vs) at' (fun g r => rows_len r) fun hv => ?_
    have hsl := setOps_len x.lasts (x.waits.take i)
    rw [hsl, ok1] at hv
    have h34 := dsk34 (p := p) (r := x.refuses) (v2 := .slice none 0 0) (v3 := v3) hv
    have hl := dsk_len (p := p) (r := x.refuses) (v2 := v2) (v3 := v3) hv
    refine st ?_
    refine iw ?_ ?_ <;> intro hlt
    · have hlt : i < x.waits.length := by omega
      refine W_ixOp (xs := x.waits) fun a n c => ?_
      (repeat' (first | refine st ?_ | (refine iw ?_ ?_ <;> intro h <;> try exact ko) | intro b))
      have hO := ok5 _ (List.getElem_mem hlt)
      refine W_draw [blk b [.int .i64 x.waits[i].off, .slice a n c], blk d (dskC p x.refuses vs v2 v3)] sub' fun ro' hle hb => ?_
      obtain ⟨k1, hb⟩ := Kn.of_big hb
      obtain ⟨k2, _⟩ := Kn.of_big hb
      (repeat' (first | refine st ?_ | (refine iw ?_ ?_ <;> intro h <;> try exact ko) | intro b))
      refine fi ?_
      intro j
      refine nf ?_
      have hs : 1 + x.waits[i].off.toNat * 1 < (dskC p x.refuses vs v2 v3).length := by omega
      (repeat' (first | refine st ?_ | (refine iw ?_ ?_ <;> intro h <;> try exact ko) | intro b))
      rw [dsk_seti (by omega)]
      refine fi ?_
      refine ⟨vs.set x.waits[i].off.toNat (.slice a n c), by omega, trivial, rfl, ?_⟩
      rw [take_succ' hlt, setOps_snoc]
      exact ((en' (X := frz (.slice a n c) x.waits[i].bytes :: repsA (setOps x.lasts (x.waits.take i)) vs :: [blk d (dskC p x.refuses (vs.set x.waits[i].off.toNat (.slice a n c)) v2 v3), own v2 x.waits, own v3 x.trace, powA p (spend w).2])).trans (ent_rowset (xs := setOps x.lasts (x.waits.take i)) (i := x.waits[i].off.toNat) (by omega))).trans en'
    · have : i = x.waits.length := by omega
      subst this
      refine fi ?_
      intro j
      have hs : 33 < (dskC p x.refuses vs v2 v3).length := by omega
      refine nf ?_
      (repeat' (first | refine st ?_ | (refine iw ?_ ?_ <;> intro h <;> try exact ko) | intro b))
      rw [dsk_set33 hv]
      (repeat' (first | refine st ?_ | (refine iw ?_ ?_ <;> intro h <;> try exact ko) | intro b))
      refine W_app1 (xs := x.trace) (y := (⟨-1, []⟩ : DOp)) pk' ent_isOp rfl ⟨rfl, by decide, by decide⟩ (by omega) fun v3' => ?_
      (refine W_slO (v := v3') sees' ?_; rintro a n c rfl)
      have hs : 34 < (dskC p x.refuses vs (.slice none 0 0) v3).length := by rw [dsk_len hv]; omega
      (repeat' (first | refine st ?_ | (refine iw ?_ ?_ <;> intro h <;> try exact ko) | intro b))
      rw [dsk_set34 hv, List.take_length]
      exact W_retE () rfl (((ent_ownNil (α := DOp)).trans (en' (X := dskL d p { x with lasts := setOps x.lasts x.waits, waits := [], trace := x.trace ++ [⟨-1, []⟩] } (vs, .slice none 0 0, .slice a n c) ++ [powA p (spend w).2]))).trans (ent_dsk (x := { x with lasts := setOps x.lasts x.waits, waits := [], trace := x.trace ++ [⟨-1, []⟩] }) vs _ _ _))
theorem k108 {ro : HP} (d p : Nat) (v : Value) (x : Dk) (keep : List Bool) (ok : okD x) : Fn Tryz.prog ro 108 [ptr d, v] [dskA d p x, frz v keep] fun _ : Unit => (.tuple #[], [dskA d p (crashD x keep), frz v keep]) := by
  refine c108 _ _ ?_
  unfold t108
  obtain ⟨ok1, ok2, ok3, ok4, ok5⟩ := ok
  (refine W_exL (X := dskL d p x) pk' fun vs => ?_; obtain ⟨vs, v2, v3⟩ := vs; unfold dskL; refine nf ?_)
  refine W_at (A := repsA x.lasts vs) at' (fun g r => rows_len r) fun hv => ?_
  rw [ok1] at hv
  have h33 := dsk33 (p := p) (r := x.refuses) (v2 := v2) (v3 := v3) hv
  (repeat' (first | refine st ?_ | (refine iw ?_ ?_ <;> intro h <;> try exact ko) | intro b))
  refine W_loopX x.waits.length (fun _ _ => True) (fun i _ => [.int .i64 i]) (fun i (vs : List Value) => [blk d (dskC p x.refuses vs v2 v3), repsA (setOps x.lasts (keepTo (kpf keep) x.waits i)) vs, own v2 x.waits, own v3 x.trace, frz v keep]) vs trivial (by rw [show setOps x.lasts (keepTo (kpf keep) x.waits 0) = x.lasts from setOps_nil _]; exact en') rfl ?_
  rintro i vs j hi -
  refine nf ?_
  refine W_at (A := repsA (setOps x.lasts (keepTo (kpf keep) x.waits i)) vs) at' (fun g r => rows_len r) fun hv => ?_
  have hsl := setOps_len x.lasts (keepTo (kpf keep) x.waits i)
  rw [hsl, ok1] at hv
  have hl := dsk_len (p := p) (r := x.refuses) (v2 := v2) (v3 := v3) hv
  refine st ?_
  refine iw ?_ ?_ <;> intro hlt
  · have hlt : i < x.waits.length := by omega
    refine W_join ?_
    refine W_ixOp (xs := x.waits) fun a n c => ?_
    have hO := ok5 _ (List.getElem_mem hlt)
    (repeat' (first | refine st ?_ | (refine iw ?_ ?_ <;> intro h <;> try exact ko) | intro b))
    · have e : kpf keep i = true := by unfold kpf; rw [List.getElem?_eq_getElem (by omega)]; exact h
      refine W_draw [blk b [.int .i64 x.waits[i].off, .slice a n c], blk d (dskC p x.refuses vs v2 v3)] sub' fun ro' hle hb => ?_
      obtain ⟨k1, hb⟩ := Kn.of_big hb
      obtain ⟨k2, _⟩ := Kn.of_big hb
      (repeat' (first | refine st ?_ | (refine iw ?_ ?_ <;> intro h <;> try exact ko) | intro b))
      refine fi ?_
      intro j
      refine nf ?_
      have hs : 1 + x.waits[i].off.toNat * 1 < (dskC p x.refuses vs v2 v3).length := by omega
      (repeat' (first | refine st ?_ | (refine iw ?_ ?_ <;> intro h <;> try exact ko) | intro b))
      rw [dsk_seti (by omega)]
      refine fi ?_
      intro j
      refine nf ?_
      (repeat' (first | refine st ?_ | (refine iw ?_ ?_ <;> intro h <;> try exact ko) | intro b))
      refine fi ?_
      refine ⟨vs.set x.waits[i].off.toNat (.slice a n c), by omega, trivial, rfl, ?_⟩
      rw [keepTo_succ, e, if_pos rfl, List.getElem?_eq_getElem hlt, Option.toList_some, setOps_snoc]
      exact ((en' (X := frz (.slice a n c) x.waits[i].bytes :: repsA (setOps x.lasts (keepTo (kpf keep) x.waits i)) vs :: [blk d (dskC p x.refuses (vs.set x.waits[i].off.toNat (.slice a n c)) v2 v3), own v2 x.waits, own v3 x.trace, frz v keep])).trans (ent_rowset (xs := setOps x.lasts (keepTo (kpf keep) x.waits i)) (i := x.waits[i].off.toNat) (by omega))).trans en'
    · have e : kpf keep i = false := by unfold kpf; rw [List.getElem?_eq_getElem (by omega)]; exact h
      refine fi ?_
      intro j
      refine nf ?_
      (repeat' (first | refine st ?_ | (refine iw ?_ ?_ <;> intro h <;> try exact ko) | intro b))
      refine fi ?_
      refine ⟨vs, by omega, trivial, rfl, ?_⟩
      rw [keepTo_succ, e, if_neg (by decide), Option.toList_none, List.append_nil]
      exact en'
    · have e : kpf keep i = false := by unfold kpf; rw [List.getElem?_eq_none (by omega)]; rfl
      refine fi ?_
      intro j
      refine nf ?_
      (repeat' (first | refine st ?_ | (refine iw ?_ ?_ <;> intro h <;> try exact ko) | intro b))
      refine fi ?_
      refine ⟨vs, by omega, trivial, rfl, ?_⟩
      rw [keepTo_succ, e, if_neg (by decide), Option.toList_none, List.append_nil]
      exact en'
  · have : i = x.waits.length := by omega
    subst this
    refine fi ?_
    intro j
    have hs : 33 < (dskC p x.refuses vs v2 v3).length := by omega
    refine nf ?_
    (repeat' (first | refine st ?_ | (refine iw ?_ ?_ <;> intro h <;> try exact ko) | intro b))
    rw [dsk_set33 hv]
    exact W_retE () rfl (((ent_ownNil (α := DOp)).trans (en' (X := dskL d p (crashD x keep) (vs, .slice none 0 0, v3) ++ [frz v keep]))).trans (ent_dsk (x := crashD x keep) vs _ _ _))
theorem k56 {ro : HP} (d p : Nat) (w : Pw) (x : Dk) (lba : Int) (ok : okD x) : Fn Tryz.prog ro 56 [ptr d, .int .i64 lba] [dskA d p x, powA p w] fun r : Value => (.tuple ⟨[r, .bool (readD w x lba).2]⟩, [frz r (readD w x lba).1, dskA d p x, powA p w]) := by
  refine c56 _ _ ?_
  unfold t56
  obtain ⟨ok1, ok2, ok3, ok4, ok5⟩ := ok
  refine fn (k129 d lba) fun _ => ?_
  refine nf ?_
  (repeat' (first | refine st ?_ | (refine iw ?_ ?_ <;> intro h <;> try exact ko) | intro b))
  · have e : readD w x lba = ([], false) := by unfold readD; rw [if_neg (by rintro ⟨h1, _⟩; exact h h1)]
    rw [e]
    exact W_retE _ rfl (ent_frzNil.trans en')
  · have hlba := h
    (refine W_exL (X := dskL d p x) pk' fun vs => ?_; obtain ⟨vs, v2, v3⟩ := vs; unfold dskL; refine nf ?_)
    refine W_at (A := repsA x.lasts vs) at' (fun g r => rows_len r) fun hv => ?_
    rw [ok1] at hv
    have h33 := dsk33 (p := p) (r := x.refuses) (v2 := v2) (v3 := v3) hv
    (repeat' (first | refine st ?_ | (refine iw ?_ ?_ <;> intro h <;> try exact ko) | intro b))
    refine fn (k104 p w) fun _ => ?_
    refine nf ?_
    refine st ?_
    refine iw ?_ ?_ <;> intro h
    · have e : readD w x lba = ([], false) := by unfold readD; rw [if_neg (by simp [h])]
      rw [e]
      exact W_retE _ rfl (ent_frzNil.trans ((en' (X := dskL d p x (vs, v2, v3) ++ [powA p w, frz (.slice none 0 0) ([] : List UInt8)])).trans ((ent_dsk vs v2 v3 _).trans en')))
    · have e : readD w x lba = (lookD (x.lasts[lba.toNat]?.getD []) x.waits lba, true) := by unfold readD; rw [if_pos ⟨hlba, h⟩]
      rw [e]
      have hli : lba.toNat < x.lasts.length := by omega
      rw [List.getElem?_eq_getElem hli, Option.getD_some]
      refine W_row (xs := x.lasts) (i := lba.toNat) at' hli fun u hu => ?_
      have hui := dsk_i (p := p) (r := x.refuses) (v2 := v2) (v3 := v3) hu
      (repeat' (first | refine st ?_ | (refine iw ?_ ?_ <;> intro h <;> try exact ko) | intro b))
      refine W_loopX x.waits.length (fun _ _ => True) (fun i r => [r, .int .i64 i]) (fun i (r : Value) => [frz r (lookD x.lasts[lba.toNat] (x.waits.take i) lba), blk d (dskC p x.refuses vs v2 v3), repsA x.lasts vs, own v2 x.waits, own v3 x.trace, powA p w]) u trivial (by rw [show lookD x.lasts[lba.toNat] (x.waits.take 0) lba = x.lasts[lba.toNat] from lookD_nil _ _]; exact en') rfl ?_
      rintro i r j hi -
      refine nf ?_
      refine st ?_
      refine iw ?_ ?_ <;> intro hlt
      · have hlt : i < x.waits.length := by omega
        refine W_join ?_
        refine W_ixOp (xs := x.waits) fun a n c => ?_
        (repeat' (first | refine st ?_ | (refine iw ?_ ?_ <;> intro h <;> try exact ko) | intro b))
        · refine fi ?_
          intro j
          refine nf ?_
          (repeat' (first | refine st ?_ | (refine iw ?_ ?_ <;> intro h <;> try exact ko) | intro b))
          refine fi ?_
          refine ⟨.slice a n c, by omega, trivial, rfl, ?_⟩
          rw [take_succ' hlt, lookD_snoc, if_pos h]
          exact en'
        · refine fi ?_
          intro j
          refine nf ?_
          (repeat' (first | refine st ?_ | (refine iw ?_ ?_ <;> intro h <;> try exact ko) | intro b))
          refine fi ?_
          refine ⟨r, by omega, trivial, rfl, ?_⟩
          rw [take_succ' hlt, lookD_snoc, if_neg h]
          exact en'
      · have : i = x.waits.length := by omega
        subst this
        refine fi ?_
        intro j
        refine nf ?_
        rw [List.take_length]
        refine W_slO (v := r) (xs := lookD x.lasts[lba.toNat] x.waits lba) sees' ?_
        rintro a n c rfl
        refine fn (k111F (v := .slice a n c) (xs := lookD x.lasts[lba.toNat] x.waits lba) (by rw [lookD_len (ok4 _ (List.getElem_mem hli)) fun o ho => (ok5 o ho).2.2]; decide)) fun r => ?_
        refine nf ?_
        refine W_frzS (v := r) pk' ?_
        (repeat' (first | refine st ?_ | (refine iw ?_ ?_ <;> intro h <;> try exact ko) | intro b))
        exact W_retE _ rfl ((en' (X := dskL d p x (vs, v2, v3) ++ [powA p w, frz r (lookD x.lasts[lba.toNat] x.waits lba)])).trans ((ent_dsk vs v2 v3 _).trans en'))
theorem ent_rows0 {S : List Asrt} : Ent S (repsA (List.replicate 32 ([] : List UInt8)) (repL [.slice none 0 0] 32) :: S) :=
  ent_triv (reps_repL (α := List UInt8) (z := []) (ez := [.slice none 0 0]) (fun g => show Rep.rep ([] : List UInt8) [Value.slice none 0 0] g from by with_unfolding_all exact ⟨_, rfl, [], rfl, .inl ⟨rfl, rfl⟩⟩) 32 fun _ => none)
theorem k97 {ro : HP} (p : Nat) : Fn Tryz.prog ro 97 [ptr p] [] fun d : Nat => (ptr d, [dskA d p zDk]) := by
  refine c97 _ ?_
  unfold t97
  refine st ?_
  refine st ?_
  intro d
  refine W_loopX 32 (fun _ _ => True) (fun i _ => [.int .i64 i]) (fun i (vs : List Value) => [blk d (dskC p false vs (.slice none 0 0) (.slice none 0 0)), repsA (fillTo 32 (fun _ => zBlock) ([] : List UInt8) i) vs]) (repL [.slice none 0 0] 32) trivial (by rw [fillTo_zero]; exact ent_rows0.trans en') rfl ?_
  rintro i vs j hi -
  refine nf ?_
  refine W_at (A := repsA (fillTo 32 (fun _ => zBlock) ([] : List UInt8) i) vs) at' (fun g r => rows_len r) fun hv => ?_
  rw [fillTo_len] at hv
  refine st ?_
  refine iw ?_ ?_ <;> intro hlt
  · refine W_draw [blk d (dskC p false vs (.slice none 0 0) (.slice none 0 0))] sub' fun ro' hle hb => ?_
    obtain ⟨k1, _⟩ := Kn.of_big hb
    refine W_mkS (z := (0 : UInt8)) rfl (fun _ => rfl) (by omega) fun v => ?_
    refine W_frzS (v := v) pk' ?_
    (refine W_slO (v := v) sees' ?_; rintro a n c rfl)
    (repeat' (first | refine st ?_ | (refine iw ?_ ?_ <;> intro h <;> try exact ko) | intro b))
    refine fi ?_
    intro j
    refine nf ?_
    have hs : 1 + (i : Int).toNat * 1 < (dskC p false vs (.slice none 0 0) (.slice none 0 0)).length := by rw [dsk_len hv]; omega
    (repeat' (first | refine st ?_ | (refine iw ?_ ?_ <;> intro h <;> try exact ko) | intro b))
    rw [dsk_seti (by omega)]
    refine fi ?_
    refine ⟨vs.set i (.slice a n c), by omega, trivial, rfl, ?_⟩
    rw [← fillTo_set]
    exact ((en' (X := frz (.slice a n c) zBlock :: repsA (fillTo 32 (fun _ => zBlock) ([] : List UInt8) i) vs :: [blk d (dskC p false (vs.set i (.slice a n c)) (.slice none 0 0) (.slice none 0 0))])).trans (ent_rowset (xs := fillTo 32 (fun _ => zBlock) ([] : List UInt8) i) (i := i) (by rw [fillTo_len]; omega))).trans en'
  · have : i = 32 := by omega
    subst this
    refine fi ?_
    intro j
    refine nf ?_
    rw [fillTo_all]
    exact W_retE d rfl (((ent_ownNil (α := DOp)).trans ((ent_ownNil (α := DOp)).trans (en' (X := dskL d p zDk (vs, .slice none 0 0, .slice none 0 0))))).trans (ent_dsk (x := zDk) vs _ _ []))
theorem k61 {ro : HP} (d p : Nat) (x : Dk) (ok : okD x) (hb : ∀ o ∈ x.trace, o.bytes.length ≤ 2 ^ 40) : Fn Tryz.prog ro 61 [ptr d] [dskA d p x] fun r : Value => (r, [own r x.trace, dskA d p x]) := by
  refine c61 _ ?_
  unfold t61
  obtain ⟨ok1, ok2, ok3, ok4, ok5⟩ := ok
  (refine W_exL (X := dskL d p x) pk' fun vs => ?_; obtain ⟨vs, v2, v3⟩ := vs; unfold dskL; refine nf ?_)
  refine W_at (A := repsA x.lasts vs) at' (fun g r => rows_len r) fun hv => ?_
  rw [ok1] at hv
  have h34 := dsk34 (p := p) (r := x.refuses) (v2 := v2) (v3 := v3) hv
  (repeat' (first | refine st ?_ | (refine iw ?_ ?_ <;> intro h <;> try exact ko) | intro b))
  refine W_loopX x.trace.length (fun _ _ => True) (fun i r => [r, .int .i64 i]) (fun i (r : Value) => [own r (x.trace.take i), blk d (dskC p x.refuses vs v2 v3), repsA x.lasts vs, own v2 x.waits, own v3 x.trace]) (.slice none 0 0) trivial ((ent_ownNil (α := DOp)).trans en') rfl ?_
  rintro i r j hi -
  refine nf ?_
  refine st ?_
  refine iw ?_ ?_ <;> intro hlt
  · have hlt : i < x.trace.length := by omega
    refine W_ixOp (xs := x.trace) fun a n c => ?_
    (repeat' (first | refine st ?_ | (refine iw ?_ ?_ <;> intro h <;> try exact ko) | intro b))
    refine W_draw [blk b [.int .i64 x.trace[i].off, .slice a n c]] sub' fun ro' hle hb' => ?_
    obtain ⟨k1, _⟩ := Kn.of_big hb'
    (repeat' (first | refine st ?_ | (refine iw ?_ ?_ <;> intro h <;> try exact ko) | intro b))
    refine fn (k111F (v := .slice a n c) (xs := x.trace[i].bytes) (hb _ (List.getElem_mem hlt))) fun q => ?_
    refine nf ?_
    refine W_frzS (v := q) pk' ?_
    refine W_slO (v := q) sees' ?_
    rintro a2 n2 c2 rfl
    (repeat' (first | refine st ?_ | (refine iw ?_ ?_ <;> intro h <;> try exact ko) | intro b))
    refine W_app1 (xs := x.trace.take i) (y := x.trace[i]) pk' (ent_op mem') rfl ⟨rfl, by decide, by decide⟩ (by simp; omega) fun v' => ?_
    refine fi ?_
    intro j
    refine nf ?_
    (repeat' (first | refine st ?_ | (refine iw ?_ ?_ <;> intro h <;> try exact ko) | intro b))
    refine fi ?_
    refine ⟨v', by omega, trivial, rfl, ?_⟩
    rw [take_succ' hlt]
    exact en'
  · have : i = x.trace.length := by omega
    subst this
    refine fi ?_
    intro j
    refine nf ?_
    rw [List.take_length]
    exact W_retE _ rfl ((en' (X := dskL d p x (vs, v2, v3) ++ [own r x.trace])).trans ((ent_dsk vs v2 v3 _).trans (Ent.swap _ _ _)))
end Go.Lb
