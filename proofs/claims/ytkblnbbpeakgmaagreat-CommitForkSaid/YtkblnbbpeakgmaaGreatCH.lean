/- Contracts: ssd, the rest. No statement of the seat is proved in this file. -/
import Derived.Test.YtkblnbbpeakgmaaGreatCG
set_option linter.all false
namespace Go.Lb
open Go.Proofs
attribute [local irreducible] WT blk fzb own frz mp exL isA Ent Tri updE drawE At Kn See SeeS

/-- writes laid one over the other -/
@[irreducible] def layOps (b : List UInt8) (l : List DOp) : List UInt8 := l.foldl (fun b o => lay b o.off.toNat o.bytes) b
/-- those of the first n that are kept -/
def keepTo (kf : Nat → Bool) (l : List DOp) (n : Nat) : List DOp := (List.range n).filterMap fun i => if kf i then l[i]? else none
theorem keepTo_succ {kf : Nat → Bool} {l : List DOp} {n : Nat} : keepTo kf l (n + 1) = keepTo kf l n ++ (if kf n then l[n]? else none).toList := by
  unfold keepTo
  rw [List.range_succ, List.filterMap_append]
  congr 1
theorem keepTo_all (l : List DOp) : ∀ n, n ≤ l.length → keepTo (fun _ => true) l n = l.take n
  | 0, _ => rfl
  | n + 1, h => by
    rw [keepTo_succ, keepTo_all l n (by omega), List.take_succ]
    rfl
def settle (x : Sd) (kf : Nat → Bool) : Sd := { x with lasts := layOps x.lasts (keepTo kf x.waits x.waits.length), waits := [] }
def okO (n : Nat) (o : DOp) : Prop := 0 ≤ o.off ∧ o.off + o.bytes.length ≤ n
def okS (x : Sd) : Prop := x.lasts.length ≤ 65536 ∧ x.waits.length ≤ 2 ^ 30 ∧ x.trace.length ≤ 2 ^ 30 ∧ ∀ o ∈ x.waits, okO x.lasts.length o
theorem layOps_nil (b : List UInt8) : layOps b [] = b := by rw [layOps]; rfl
theorem layOps_snoc (b : List UInt8) (l : List DOp) (o : DOp) : layOps b (l ++ [o]) = lay (layOps b l) o.off.toNat o.bytes := by
  simp only [layOps, List.foldl_append]; rfl
theorem layOps_len (b : List UInt8) (l : List DOp) (h : ∀ o ∈ l, okO b.length o) : (layOps b l).length = b.length := by
  rw [layOps]
  induction l generalizing b with
  | nil => rfl
  | cons o l ih =>
    have h1 := h o (by simp)
    unfold okO at h1
    have hl : (lay b o.off.toNat o.bytes).length = b.length := lay_len (by omega)
    rw [List.foldl_cons, ih _ (fun o' ho' => by rw [hl]; exact h o' (by simp [ho'])), hl]
theorem keepTo_mem {kf : Nat → Bool} {l : List DOp} {n : Nat} {o : DOp} (h : o ∈ keepTo kf l n) : o ∈ l := by
  unfold keepTo at h
  obtain ⟨i, _, h⟩ := List.mem_filterMap.1 h
  split at h
  · exact List.mem_of_getElem? h
  · cases h

/-- what is laid over the bytes by a write that is within -/
theorem k115 {ro : HP} (i : Nat) : Fn Tryz.prog ro 115 [.int .i64 i] [emp] fun _ : Unit => (.bool true, [emp]) := by
  refine c115 _ ?_
  unfold t115
  (first | exact retU | exact retB)
theorem k114 {ro : HP} {f : Nat} {cap : List Value} {A : Asrt} (s p : Nat) (x : Sd) (kf : Nat → Bool) (ok : okS x) (hf : en.hb f = true)
    (hc : ∀ i : Nat, i < x.waits.length → Fn Tryz.prog ro f ([] ++ [.int .i64 i] ++ cap) [A] fun _ : Unit => (.bool (kf i), [A])) :
    Fn Tryz.prog ro 114 [ptr s, .func (.func f) ⟨[]⟩ ⟨cap⟩] [ssdA s p x, A] fun _ : Unit => (.tuple #[], [ssdA s p (settle x kf), A]) := by
  refine c114 _ _ ?_
  unfold t114
  obtain ⟨ok1, ok2, ok3, ok4⟩ := ok
  refine W_exL (X := ssdL s p x) pk' fun vs => ?_
  obtain ⟨v1, v2, v3⟩ := vs
  unfold ssdL
  refine nf ?_
  (repeat' (first | refine st ?_ | (refine iw ?_ ?_ <;> intro h <;> try exact ko) | intro b))
  refine W_loopX x.waits.length (fun _ _ => True) (fun i _ => [.int .i64 i]) (fun i (_ : Unit) => [blk s [ptr p, v1, v2, v3], own v1 (layOps x.lasts (keepTo kf x.waits i)), own v2 x.waits, own v3 x.trace, A]) () trivial (by rw [show layOps x.lasts (keepTo kf x.waits 0) = x.lasts from layOps_nil _]; exact en') rfl ?_
  rintro i _ j hi -
  refine nf ?_
  have hlen : (layOps x.lasts (keepTo kf x.waits i)).length = x.lasts.length := layOps_len _ _ fun o ho => ok4 o (keepTo_mem ho)
  refine st ?_
  refine iw ?_ ?_ <;> intro hlt
  · have hlt : i < x.waits.length := by omega
    refine W_join ?_
    refine W_ixOp (xs := x.waits) fun a n c => ?_
    refine st ?_
    intro b
    refine st ?_
    refine fnv (hc i hlt) fun _ => ?_
    refine nf ?_
    have hO := ok4 _ (List.getElem_mem hlt)
    unfold okO at hO
    refine iw ?_ ?_ <;> intro h
    · refine W_draw [blk s [ptr p, v1, v2, v3], blk b [.int .i64 x.waits[i].off, .slice a n c]] sub' fun ro' hle hb => ?_
      obtain ⟨k1, hb⟩ := Kn.of_big hb
      obtain ⟨k2, _⟩ := Kn.of_big hb
      (repeat' (first | refine st ?_ | (refine iw ?_ ?_ <;> intro h <;> try exact ko) | intro b))
      refine W_slcP (xs := layOps x.lasts (keepTo kf x.waits i)) sees' (by omega) fun w hw => ?_
      (repeat' (first | refine st ?_ | (refine iw ?_ ?_ <;> intro h <;> try exact ko) | intro b))
      refine W_cpyAt (ys := x.waits[i].bytes) hw pk' sees' rfl (by omega) ?_
      refine fi ?_
      intro j
      refine fi ?_
      intro j
      refine nf ?_
      (repeat' (first | refine st ?_ | (refine iw ?_ ?_ <;> intro h <;> try exact ko) | intro b))
      refine fi ?_
      refine ⟨(), by omega, trivial, rfl, ?_⟩
      rw [keepTo_succ, h, if_pos rfl, List.getElem?_eq_getElem hlt]
      simp only [Option.toList_some]
      rw [layOps_snoc]
      exact en'
    · refine fi ?_
      intro j
      refine nf ?_
      (repeat' (first | refine st ?_ | (refine iw ?_ ?_ <;> intro h <;> try exact ko) | intro b))
      refine fi ?_
      refine ⟨(), by omega, trivial, rfl, ?_⟩
      rw [keepTo_succ, h, if_neg (by decide)]
      simp only [Option.toList_none, List.append_nil]
      exact en'
  · have : i = x.waits.length := by omega
    subst this
    refine fi ?_
    intro j
    refine nf ?_
    (repeat' (first | refine st ?_ | (refine iw ?_ ?_ <;> intro h <;> try exact ko) | intro b))
    exact W_retE () rfl (((ent_ownNil (α := DOp)).trans (en' (X := [blk s [ptr p, v1, .slice none 0 0, v3], own v1 (layOps x.lasts (keepTo kf x.waits x.waits.length)), own (.slice none 0 0) ([] : List DOp), own v3 x.trace, A]))).trans (ent_ssd (x := settle x kf) v1 (.slice none 0 0) v3 [A]))
theorem keepAll (x : Sd) : keepTo (fun _ => true) x.waits x.waits.length = x.waits := by rw [keepTo_all _ _ (Nat.le_refl _), List.take_length]
def snapS (x : Sd) : List UInt8 := layOps x.lasts x.waits
def settleA (x : Sd) : Sd := { x with lasts := layOps x.lasts x.waits, waits := [] }
theorem settle_all (x : Sd) : settle x (fun _ => true) = settleA x := by unfold settle settleA; rw [keepAll]
def barS (w : Pw) (x : Sd) : Bool × Pw × Sd :=
  if (spend w).1 then (true, (spend w).2, { settleA x with trace := x.trace ++ [⟨-1, []⟩] }) else (false, (spend w).2, x)
theorem ent_isOp {S : List Asrt} {off : Int} : Ent S (isA (.agg ⟨[.int .i64 off, .slice none 0 0]⟩) (⟨off, []⟩ : DOp) :: S) := ent_triv (by with_unfolding_all exact ⟨.slice none 0 0, rfl, [], rfl, .inl ⟨rfl, rfl⟩⟩)
theorem k95 {ro : HP} (m : Int) (p : Nat) (h : 0 ≤ m ∧ m ≤ 65536) : Fn Tryz.prog ro 95 [.int .i64 m, ptr p] [] fun s : Nat => (ptr s, [ssdA s p ⟨List.replicate m.toNat 0, [], []⟩]) := by
  refine c95 _ _ ?_
  unfold t95
  (repeat' (first | refine st ?_ | (refine iw ?_ ?_ <;> intro h <;> try exact ko) | intro b))
  refine W_mkS (z := (0 : UInt8)) rfl (fun _ => rfl) (by omega) fun v => ?_
  (refine W_slO (v := v) sees' ?_; rintro a n c rfl)
  (repeat' (first | refine st ?_ | (refine iw ?_ ?_ <;> intro h <;> try exact ko) | intro b))
  refine W_retE b rfl ?_
  refine ((ent_ownNil (α := DOp)).trans ((ent_ownNil (α := DOp)).trans (en' (X := [blk b [ptr p, .slice a n c, .slice none 0 0, .slice none 0 0], own (.slice a n c) (List.replicate m.toNat (0 : UInt8)), own (.slice none 0 0) ([] : List DOp), own (.slice none 0 0) ([] : List DOp)])))).trans (ent_ssd (x := ⟨List.replicate m.toNat 0, [], []⟩) _ _ _ [])
theorem k101 {ro : HP} (s p : Nat) (w : Pw) (x : Sd) (ok : okS x) : Fn Tryz.prog ro 101 [ptr s] [ssdA s p x, powA p w] fun _ : Unit => (.bool (barS w x).1, [ssdA s p (barS w x).2.2, powA p (barS w x).2.1]) := by
  refine c101 _ ?_
  unfold t101
  refine W_exL (X := ssdL s p x) pk' fun vs => ?_
  obtain ⟨v1, v2, v3⟩ := vs
  unfold ssdL
  refine nf ?_
  (repeat' (first | refine st ?_ | (refine iw ?_ ?_ <;> intro h <;> try exact ko) | intro b))
  refine fn (k110 p w) fun _ => ?_
  refine nf ?_
  (repeat' (first | refine st ?_ | (refine iw ?_ ?_ <;> intro h <;> try exact ko) | intro b))
  · have e : barS w x = (false, (spend w).2, x) := by unfold barS; rw [h]; rfl
    rw [e]
    exact W_retE () rfl ((en' (X := ssdL s p x (v1, v2, v3) ++ [powA p (spend w).2])).trans (ent_ssd v1 v2 v3 _))
  · have e : barS w x = (true, (spend w).2, { settleA x with trace := x.trace ++ [⟨-1, []⟩] }) := by unfold barS; rw [h]; rfl
    rw [e]
    refine W_ent (((en' (X := ssdL s p x (v1, v2, v3) ++ [powA p (spend w).2])).trans (ent_ssd v1 v2 v3 _)).trans ent_emp) ?_
    refine fn (k114 (f := 115) (cap := []) (A := emp) s p x (fun _ => true) ok rfl fun i _ => k115 i) fun _ => ?_
    refine nf ?_
    rw [settle_all]
    refine W_exL (X := ssdL s p (settleA x)) pk' fun vs => ?_
    obtain ⟨v1, v2, v3⟩ := vs
    unfold ssdL
    refine nf ?_
    (repeat' (first | refine st ?_ | (refine iw ?_ ?_ <;> intro h <;> try exact ko) | intro b))
    refine W_app1 (xs := x.trace) (y := (⟨-1, []⟩ : DOp)) pk' ent_isOp rfl ⟨rfl, by decide, by decide⟩ (by have := ok.2.2.1; omega) fun v3' => ?_
    (refine W_slO (v := v3') sees' ?_; rintro a n c rfl)
    (repeat' (first | refine st ?_ | (refine iw ?_ ?_ <;> intro h <;> try exact ko) | intro b))
    exact W_retE () rfl ((en' (X := ssdL s p { settleA x with trace := x.trace ++ [⟨-1, []⟩] } (v1, v2, .slice a n c) ++ [powA p (spend w).2])).trans (ent_ssd (x := { settleA x with trace := x.trace ++ [⟨-1, []⟩] }) v1 v2 _ _))
theorem k40 {ro : HP} (s p : Nat) (x : Sd) (ok : okS x) : Fn Tryz.prog ro 40 [ptr s] [ssdA s p x] fun r : Value => (r, [own r (snapS x), ssdA s p x]) := by
  refine c40 _ ?_
  unfold t40
  (refine W_exL (X := ssdL s p x) pk' fun vs => ?_; obtain ⟨v1, v2, v3⟩ := vs; unfold ssdL; refine nf ?_)
  (repeat' (first | refine st ?_ | (refine iw ?_ ?_ <;> intro h <;> try exact ko) | intro b))
  obtain ⟨ok1, ok2, ok3, ok4⟩ := ok
  refine fn (k111O (v := v1) (xs := x.lasts) (by omega)) fun r => ?_
  refine nf ?_
  (repeat' (first | refine st ?_ | (refine iw ?_ ?_ <;> intro h <;> try exact ko) | intro b))
  refine W_loopX x.waits.length (fun _ _ => True) (fun i _ => [.int .i64 i]) (fun i (_ : Unit) => [own r (layOps x.lasts (x.waits.take i)), blk s [ptr p, v1, v2, v3], own v1 x.lasts, own v2 x.waits, own v3 x.trace]) () trivial (by rw [show layOps x.lasts (x.waits.take 0) = x.lasts from layOps_nil _]; exact en') rfl ?_
  rintro i _ j hi -
  refine nf ?_
  have hlen : (layOps x.lasts (x.waits.take i)).length = x.lasts.length := layOps_len _ _ fun o ho => ok4 o (List.mem_of_mem_take ho)
  refine st ?_
  refine iw ?_ ?_ <;> intro hlt
  · have hlt : i < x.waits.length := by omega
    refine W_ixOp (xs := x.waits) fun a n c => ?_
    (repeat' (first | refine st ?_ | (refine iw ?_ ?_ <;> intro h <;> try exact ko) | intro b))
    have hO := ok4 _ (List.getElem_mem hlt)
    unfold okO at hO
    refine W_draw [blk b [.int .i64 x.waits[i].off, .slice a n c]] sub' fun ro' hle hb => ?_
    obtain ⟨k2, _⟩ := Kn.of_big hb
    (repeat' (first | refine st ?_ | (refine iw ?_ ?_ <;> intro h <;> try exact ko) | intro b))
    refine W_slcP (xs := layOps x.lasts (x.waits.take i)) sees' (by omega) fun w hw => ?_
    (repeat' (first | refine st ?_ | (refine iw ?_ ?_ <;> intro h <;> try exact ko) | intro b))
    refine W_cpyAt (ys := x.waits[i].bytes) hw pk' sees' rfl (by omega) ?_
    refine fi ?_
    intro j
    refine nf ?_
    (repeat' (first | refine st ?_ | (refine iw ?_ ?_ <;> intro h <;> try exact ko) | intro b))
    refine fi ?_
    refine ⟨(), by omega, trivial, rfl, ?_⟩
    rw [take_succ' hlt, layOps_snoc]
    exact en'
  · have : i = x.waits.length := by omega
    subst this
    refine fi ?_
    intro j
    refine nf ?_
    rw [List.take_length]
    exact W_retE _ rfl ((en' (X := ssdL s p x (v1, v2, v3) ++ [own r (snapS x)])).trans ((ent_ssd v1 v2 v3 _).trans (Ent.swap _ _ _)))
def readS (w : Pw) (x : Sd) (off n : Int) : List UInt8 × Bool := if inS x off n ∧ w.gone = false then (((snapS x).drop off.toNat).take n.toNat, true) else ([], false)
theorem k184 {ro : HP} (s p : Nat) (w : Pw) (x : Sd) (off n : Int) (ok : okS x) : Fn Tryz.prog ro 184 [ptr s, .int .i64 off, .int .i64 n] [ssdA s p x, powA p w] fun r : Value => (.tuple ⟨[r, .bool (readS w x off n).2]⟩, [frz r (readS w x off n).1, ssdA s p x, powA p w]) := by
  refine c184 _ _ _ ?_
  unfold t184
  refine fn (k113 s p x off n ok.1) fun _ => ?_
  refine nf ?_
  (repeat' (first | refine st ?_ | (refine iw ?_ ?_ <;> intro h <;> try exact ko) | intro b))
  · have e : readS w x off n = ([], false) := by unfold readS; rw [if_neg (by simp only [not_and]; intro h'; exact absurd h' h)]
    rw [e]
    exact W_retE _ rfl (ent_frzNil.trans en')
  · (refine W_exL (X := ssdL s p x) pk' fun vs => ?_; obtain ⟨v1, v2, v3⟩ := vs; unfold ssdL; refine nf ?_)
    (repeat' (first | refine st ?_ | (refine iw ?_ ?_ <;> intro h <;> try exact ko) | intro b))
    refine fn (k104 p w) fun _ => ?_
    refine nf ?_
    (repeat' (first | refine st ?_ | (refine iw ?_ ?_ <;> intro h <;> try exact ko) | intro b))
    · have e : readS w x off n = ([], false) := by unfold readS; rw [if_neg (by simp [h])]
      rw [e]
      exact W_retE _ rfl (ent_frzNil.trans ((en' (X := ssdL s p x (v1, v2, v3) ++ [powA p w, frz (.slice none 0 0) ([] : List UInt8)])).trans ((ent_ssd v1 v2 v3 _).trans en')))
    · refine W_ent ((en' (X := ssdL s p x (v1, v2, v3) ++ [powA p w])).trans (ent_ssd v1 v2 v3 _)) ?_
      refine fn (k40 s p x ok) fun r => ?_
      refine nf ?_
      have hi : inS x off n := by assumption
      have e : readS w x off n = (((snapS x).drop off.toNat).take n.toNat, true) := by unfold readS; rw [if_pos ⟨hi, h⟩]
      rw [e]
      have hl : (snapS x).length = x.lasts.length := layOps_len _ _ ok.2.2.2
      have h1 := ok.1
      (repeat' (first | refine st ?_ | (refine iw ?_ ?_ <;> intro h <;> try exact ko) | intro b))
      refine W_frzS (v := r) pk' ?_
      refine W_slcF (c := (off + n).toNat) (a := off.toNat) (xs := snapS x) mem' rfl (fun cap h => by rw [bndV_int (by omega)]) (by rw [bndV_int (by omega)]) (by omega) (by omega) fun u => ?_
      have e2 : List.drop off.toNat (List.take (off + n).toNat (snapS x)) = ((snapS x).drop off.toNat).take n.toNat := by rw [List.drop_take]; congr 1; omega
      rw [e2]
      (first | exact retU | exact retB)

/-! what is kept -/
def kpf (keep : List Bool) (i : Nat) : Bool := keep[i]?.getD false
theorem k187 {ro : HP} (b : Nat) (v : Value) (keep : List Bool) (i : Nat) : Fn Tryz.prog ro 187 [.int .i64 i, ptr b] [big [blk b [v], frz v keep]] fun _ : Unit => (.bool (kpf keep i), [big [blk b [v], frz v keep]]) := by
  refine c187 _ _ ?_
  unfold t187
  refine W_ent (Ent.unfoldb _ _) ?_
  (repeat' (first | refine st ?_ | (refine iw ?_ ?_ <;> intro h <;> try exact ko) | intro b))
  · have e : kpf keep i = keep[i] := by unfold kpf; rw [List.getElem?_eq_getElem (by omega)]; rfl
    have e2 : keep[(i : Int).toNat] = keep[i] := by congr 1
    rw [e]
    exact W_retE () rfl (Ent.foldb [blk b [v], frz v keep] [])
  · have e : kpf keep i = false := by unfold kpf; rw [List.getElem?_eq_none (by omega)]; rfl
    rw [e]
    exact W_retE () rfl (Ent.foldb [blk b [v], frz v keep] [])
def crashS (x : Sd) (keep : List Bool) : Sd := settle x (kpf keep)
theorem k107 {ro : HP} (s p : Nat) (v : Value) (x : Sd) (keep : List Bool) (ok : okS x) : Fn Tryz.prog ro 107 [ptr s, v] [ssdA s p x, frz v keep] fun _ : Unit => (.tuple #[], [ssdA s p (crashS x keep), frz v keep]) := by
  refine c107 _ _ ?_
  unfold t107
  (refine W_slO (v := v) sees' ?_; rintro a n c rfl)
  (repeat' (first | refine st ?_ | (refine iw ?_ ?_ <;> intro h <;> try exact ko) | intro b))
  refine W_ent ((en' (X := [blk b [.slice a n c], frz (.slice a n c) keep] ++ [ssdA s p x])).trans (Ent.foldb _ _)) ?_
  refine fn (k114 (f := 187) (cap := [ptr b]) (A := big [blk b [.slice a n c], frz (.slice a n c) keep]) s p x (kpf keep) ok rfl fun i _ => k187 b _ keep i) fun _ => ?_
  refine nf ?_
  exact W_retE () rfl (((Ent.swap _ _ _).trans (Ent.unfoldb _ _)).trans en')
def smashS (x : Sd) (off : Int) (bs : List UInt8) : Bool × Sd := if inS x off bs.length then (true, { settleA x with lasts := lay (snapS x) off.toNat bs }) else (false, x)
theorem k42 {ro : HP} (s p : Nat) (off : Int) (v : Value) (bs : List UInt8) (x : Sd) (ok : okS x) : Fn Tryz.prog ro 42 [ptr s, .int .i64 off, v] [ssdA s p x, frz v bs] fun _ : Unit => (.bool (smashS x off bs).1, [ssdA s p (smashS x off bs).2, frz v bs]) := by
  refine c42 _ _ _ ?_
  unfold t42
  (repeat' (first | refine st ?_ | (refine iw ?_ ?_ <;> intro h <;> try exact ko) | intro b))
  refine fn (k113 s p x off bs.length ok.1) fun _ => ?_
  refine nf ?_
  (repeat' (first | refine st ?_ | (refine iw ?_ ?_ <;> intro h <;> try exact ko) | intro b))
  · have e : smashS x off bs = (false, x) := by unfold smashS; rw [if_neg h]
    rw [e]
    (first | exact retU | exact retB)
  · have e : smashS x off bs = (true, { settleA x with lasts := lay (snapS x) off.toNat bs }) := by unfold smashS; rw [if_pos h]
    rw [e]
    refine W_ent ent_emp ?_
    refine fn (k114 (f := 115) (cap := []) (A := emp) s p x (fun _ => true) ok rfl fun i _ => k115 i) fun _ => ?_
    refine nf ?_
    rw [settle_all]
    (refine W_exL (X := ssdL s p (settleA x)) pk' fun vs => ?_; obtain ⟨v1, v2, v3⟩ := vs; unfold ssdL; refine nf ?_)
    (repeat' (first | refine st ?_ | (refine iw ?_ ?_ <;> intro h <;> try exact ko) | intro b))
    have hl : (settleA x).lasts.length = x.lasts.length := layOps_len _ _ ok.2.2.2
    refine W_slcP (xs := (settleA x).lasts) sees' (by omega) fun w hw => ?_
    refine W_cpyAt (xs := (settleA x).lasts) (ys := bs) hw pk' sees' rfl (by omega) ?_
    exact W_retE () rfl ((en' (X := ssdL s p { settleA x with lasts := lay (snapS x) off.toNat bs } (v1, v2, v3) ++ [frz v bs])).trans (ent_ssd (x := { settleA x with lasts := lay (snapS x) off.toNat bs }) v1 v2 v3 _))
def backS (x : Sd) (b : List UInt8) : Bool × Sd := if b.length = x.lasts.length then (true, { x with lasts := b, waits := [] }) else (false, x)
theorem k41 {ro : HP} (s p : Nat) (v : Value) (bs : List UInt8) (x : Sd) (ok : okS x) : Fn Tryz.prog ro 41 [ptr s, v] [ssdA s p x, frz v bs] fun _ : Unit => (.bool (backS x bs).1, [ssdA s p (backS x bs).2, frz v bs]) := by
  refine c41 _ _ ?_
  unfold t41
  (repeat' (first | refine st ?_ | (refine iw ?_ ?_ <;> intro h <;> try exact ko) | intro b))
  refine fn (k112 s p x) fun _ => ?_
  refine nf ?_
  (repeat' (first | refine st ?_ | (refine iw ?_ ?_ <;> intro h <;> try exact ko) | intro b))
  · have e : backS x bs = (false, x) := by unfold backS; rw [if_neg (by omega)]
    rw [e]
    (first | exact retU | exact retB)
  · have hl : bs.length = x.lasts.length := by omega
    have e : backS x bs = (true, { x with lasts := bs, waits := [] }) := by unfold backS; rw [if_pos hl]
    rw [e]
    have h1 := ok.1
    refine W_bslS (ys := ([] : List UInt8)) rfl rfl rfl ⟨by omega, rfl⟩ (ent_triv rfl) fun z => ?_
    refine W_appS (v := z) (xs := []) (ys := bs) pk' sees' rfl ⟨rfl, by decide, by decide⟩ (by simp; omega) fun y => ?_
    (refine W_slO (v := y) sees' ?_; rintro a n c rfl)
    (refine W_exL (X := ssdL s p x) pk' fun vs => ?_; obtain ⟨v1, v2, v3⟩ := vs; unfold ssdL; refine nf ?_)
    (repeat' (first | refine st ?_ | (refine iw ?_ ?_ <;> intro h <;> try exact ko) | intro b))
    exact W_retE () rfl (((ent_ownNil (α := DOp)).trans (en' (X := ssdL s p { x with lasts := bs, waits := [] } (.slice a n c, .slice none 0 0, v3) ++ [frz v bs]))).trans (ent_ssd (x := { x with lasts := bs, waits := [] }) _ _ v3 _))
theorem k79 {ro : HP} (s p : Nat) (x : Sd) (ok : okS x) (hb : ∀ o ∈ x.trace, o.bytes.length ≤ 2 ^ 40) : Fn Tryz.prog ro 79 [ptr s] [ssdA s p x] fun r : Value => (r, [own r x.trace, ssdA s p x]) := by
  refine c79 _ ?_
  unfold t79
  (refine W_exL (X := ssdL s p x) pk' fun vs => ?_; obtain ⟨v1, v2, v3⟩ := vs; unfold ssdL; refine nf ?_)
  (repeat' (first | refine st ?_ | (refine iw ?_ ?_ <;> intro h <;> try exact ko) | intro b))
  have h3 := ok.2.2.1
  refine W_loopX x.trace.length (fun _ _ => True) (fun i r => [r, .int .i64 i]) (fun i (r : Value) => [own r (x.trace.take i), blk s [ptr p, v1, v2, v3], own v1 x.lasts, own v2 x.waits, own v3 x.trace]) (.slice none 0 0) trivial ((ent_ownNil (α := DOp)).trans en') rfl ?_
  rintro i r j hi -
  refine nf ?_
  refine st ?_
  refine iw ?_ ?_ <;> intro hlt
  · have hlt : i < x.trace.length := by omega
    refine W_ixOp (xs := x.trace) fun a n c => ?_
    (repeat' (first | refine st ?_ | (refine iw ?_ ?_ <;> intro h <;> try exact ko) | intro b))
    refine fn (k149 (off := x.trace[i].off) (v := .slice a n c) (bs := x.trace[i].bytes) (hb _ (List.getElem_mem hlt))) fun r => ?_
    refine nf ?_
    refine W_app1 (xs := x.trace.take i) (y := x.trace[i]) pk' (ent_op mem') rfl ⟨rfl, by decide, by decide⟩ (by simp; omega) fun v' => ?_
    (repeat' (first | refine st ?_ | (refine iw ?_ ?_ <;> intro h <;> try exact ko) | intro b))
    refine fi ?_
    refine ⟨v', by omega, trivial, rfl, ?_⟩
    rw [take_succ' hlt]
    exact en'
  · have : i = x.trace.length := by omega
    subst this
    refine fi ?_
    intro j
    refine nf ?_
    rw [List.take_length]
    exact W_retE _ rfl ((en' (X := ssdL s p x (v1, v2, v3) ++ [own r x.trace])).trans ((ent_ssd v1 v2 v3 _).trans (Ent.swap _ _ _)))
end Go.Lb
