/- Contracts: oracle: Seal, Sum, Issued. No statement of the seat is proved in this file. -/
import Derived.Test.YtkblnbbpeakgmaaGreatCM
set_option linter.all false
namespace Go.Lb
open Go.Proofs
attribute [local irreducible] WT blk fzb own frz mp exL isA Ent Tri updE drawE At Kn See SeeS

def sealT : UInt64 := 18446744073709551615
def summT : UInt64 := 17216961135462248174
/-- what is sealed by the number i -/
def sealB (i : UInt64) (len : Nat) : Sealed := ⟨cyc (putB i 8) len, ⟨sealT, i⟩⟩
def zSealed : Sealed := ⟨[], zPair⟩
def sealO (x : Orc) (key : Pair) (n : Nonce) (head data : List UInt8) : (Sealed × Bool) × Orc :=
  if head.length ≤ 4000 ∧ data.length ≤ 4000 then
    ((sealB (UInt64.ofNat (x.issued.length + 1)) data.length, true), { x with issued := x.issued ++ [⟨key, n, head, data, sealB (UInt64.ofNat (x.issued.length + 1)) data.length⟩] })
  else ((zSealed, false), x)
def sumO (x : Orc) (k : List UInt8) : Pair × Orc := (⟨summT, UInt64.ofNat (x.sums.idxOf k + 1)⟩, if k ∈ x.sums then x else { x with sums := x.sums ++ [k] })
theorem u64_ofInt (n : Nat) : UInt64.ofInt ((n : Int) + 1) = UInt64.ofNat (n + 1) := by
  simp only [UInt64.ofInt]
  apply UInt64.toNat_inj.1
  simp only [UInt64.toNat_ofNat']
  omega
def sealC (s : Sealed) (v : Value) : Value := .agg ⟨[v, val s.tag.a, val s.tag.b]⟩

theorem k169 {ro : HP} (o mb : Nat) (x : Orc) (v : Value) (rows : List (List UInt8)) (hl : rows.flatten.length ≤ 2 ^ 40) (hr : rows.length ≤ 2 ^ 40) (ok : okOr x) : Fn Tryz.prog ro 169 [ptr o, v] [orcA o mb x, frz v rows] fun _ : Unit => (agg (sumO x rows.flatten).1, [orcA o mb (sumO x rows.flatten).2, frz v rows]) := by
  refine c169 _ _ ?_
  unfold t169
  (repeat' (first | refine st ?_ | (refine iw ?_ ?_ <;> intro h <;> try exact ko) | intro b))
  refine fn (k239 v rows hl hr) fun r => ?_
  refine nf ?_
  refine W_b2s (xs := rows.flatten) sees' ?_
  refine W_exL (X := orcL o mb x) pk' fun w => ?_
  unfold orcL
  refine nf ?_
  (repeat' (first | refine st ?_ | (refine iw ?_ ?_ <;> intro h <;> try exact ko) | intro b))
  by_cases hm : rows.flatten ∈ x.sums
  · have e : sumO x rows.flatten = (⟨summT, UInt64.ofNat (x.sums.idxOf rows.flatten + 1)⟩, x) := by unfold sumO; rw [if_pos hm]
    rw [e]
    refine W_mlk (v := .tuple #[val (UInt64.ofNat (x.sums.idxOf rows.flatten + 1)), .bool true]) (es := entsFrom 0 x.sums) (ck := x.sums.length) at' (by rw [mfind_ents, if_pos hm]; simp only [Nat.zero_add]; rfl) ?_
    (repeat' (first | refine st ?_ | (refine iw ?_ ?_ <;> intro h <;> try exact ko) | intro b))
    exact W_retE () rfl ((en' (X := orcL o mb x w ++ [frz v rows])).trans (ent_orc w _))
  · have hi : x.sums.idxOf rows.flatten = x.sums.length := List.idxOf_eq_length hm
    have e : sumO x rows.flatten = (⟨summT, UInt64.ofNat (x.sums.length + 1)⟩, { x with sums := x.sums ++ [rows.flatten] }) := by unfold sumO; rw [if_neg hm, hi]
    rw [e]
    refine W_mlk (v := .tuple #[.int .u64 0, .bool false]) (es := entsFrom 0 x.sums) (ck := x.sums.length) at' (by rw [mfind_ents, if_neg hm]; rfl) ?_
    (repeat' (first | refine st ?_ | (refine iw ?_ ?_ <;> intro h <;> try exact ko) | intro b))
    refine W_mln (es := entsFrom 0 x.sums) (ck := x.sums.length) at' ?_
    rw [entsFrom_len]
    have h2 := ok.2.1
    (repeat' (first | refine st ?_ | (refine iw ?_ ?_ <;> intro h <;> try exact ko) | intro b))
    rw [u64_ofInt]
    refine W_mup (es := entsFrom 0 x.sums) (ck := x.sums.length) pk' (by rw [mfind_ents, if_neg hm]) ?_
    have he : entsFrom 0 x.sums ++ [{ key := str rows.flatten, val := val (UInt64.ofNat (x.sums.length + 1)), born := x.sums.length }] = entsFrom 0 (x.sums ++ [rows.flatten]) := by rw [entsFrom_snoc, Nat.zero_add]
    rw [he]
    (repeat' (first | refine st ?_ | (refine iw ?_ ?_ <;> intro h <;> try exact ko) | intro b))
    have hl2 : x.sums.length + 1 = (x.sums ++ [rows.flatten]).length := by simp
    rw [hl2]
    exact W_retE () rfl ((en' (X := orcL o mb { x with sums := x.sums ++ [rows.flatten] } w ++ [frz v rows])).trans (ent_orc (x := { x with sums := x.sums ++ [rows.flatten] }) w _))

theorem k167 {ro : HP} (o mb : Nat) (x : Orc) (key : Pair) (no : Nonce) (v3 v4 : Value) (head data : List UInt8) (ok : okOr x) (hl : head.length ≤ 2 ^ 40 ∧ data.length ≤ 2 ^ 40) :
    Fn Tryz.prog ro 167 [ptr o, agg key, agg no, v3, v4] [orcA o mb x, frz v3 head, frz v4 data]
      fun r : Value => (.tuple ⟨[sealC (sealO x key no head data).1.1 r, .bool (sealO x key no head data).1.2]⟩, [frz r (sealO x key no head data).1.1.bytes, orcA o mb (sealO x key no head data).2, frz v3 head, frz v4 data]) := by
  refine c167 _ _ _ _ _ ?_
  unfold t167
  obtain ⟨ok1, ok2, ok3⟩ := ok
  refine st ?_
  intro b0
  refine st ?_
  intro b1
  refine st ?_
  intro b2
  (repeat' (first | refine st ?_ | (refine iw ?_ ?_ <;> intro h <;> try exact ko) | intro b))
  · have e : sealO x key no head data = ((zSealed, false), x) := by unfold sealO; rw [if_neg (by omega)]
    rw [e]
    exact W_retE (.slice none 0 0) rfl (ent_frzNil.trans en')
  · have e : sealO x key no head data = ((zSealed, false), x) := by unfold sealO; rw [if_neg (by omega)]
    rw [e]
    exact W_retE (.slice none 0 0) rfl (ent_frzNil.trans en')
  · refine W_exL (X := orcL o mb x) pk' fun w => ?_
    unfold orcL
    refine nf ?_
    (repeat' (first | refine st ?_ | (refine iw ?_ ?_ <;> intro h <;> try exact ko) | intro b))
    rw [u64_ofInt]
    refine fn (k240 (UInt64.ofNat (x.issued.length + 1)) 8) fun r => ?_
    refine nf ?_
    (repeat' (first | refine st ?_ | (refine iw ?_ ?_ <;> intro h <;> try exact ko) | intro b))
    rw [show (data.length : Int) / 8 + 1 = ((data.length / 8 + 1 : Nat) : Int) from by omega]
    refine fn (k245 (A := own r (putB (UInt64.ofNat (x.issued.length + 1)) 8)) r (putB (UInt64.ofNat (x.issued.length + 1)) 8) (data.length / 8 + 1) (fun _ => own_seen) (by rw [putB_len]; rfl) (by omega)) fun r2 => ?_
    refine nf ?_
    (repeat' (first | refine st ?_ | (refine iw ?_ ?_ <;> intro h <;> try exact ko) | intro b))
    refine W_takeO (c := data.length) pk' rfl (fun cap hcap => by rw [bndV_int (by rw [cyc_len] at hcap; omega)]; simp) (by rw [cyc_len]; omega) fun u => ?_
    rw [cyc_take (by omega)]
    refine W_frzS (v := u) pk' ?_
    refine W_slO (v := u) sees' ?_
    rintro a3 n3 c3 rfl
    refine nf ?_
    refine W_draw [blk b0 (Enc.enc key), blk b1 (Enc.enc no)] sub' fun ro' hle hb => ?_
    obtain ⟨k1, hb⟩ := Kn.of_big hb
    obtain ⟨k2, _⟩ := Kn.of_big hb
    (repeat' (first | refine st ?_ | (refine iw ?_ ?_ <;> intro h <;> try exact ko) | intro b))
    refine fn (k111F (v := v3) (xs := head) (by omega)) fun q1 => ?_
    refine nf ?_
    refine fn (k111F (v := v4) (xs := data) (by omega)) fun q2 => ?_
    refine nf ?_
    refine W_frzS (v := q1) pk' ?_
    refine W_frzS (v := q2) pk' ?_
    refine W_slO (v := q1) sees' ?_
    rintro a1 n1 c1 rfl
    refine W_slO (v := q2) sees' ?_
    rintro a2 n2 c2 rfl
    (repeat' (first | refine st ?_ | (refine iw ?_ ?_ <;> intro h <;> try exact ko) | intro b))
    refine fi ?_
    intro j
    refine nf ?_
    (repeat' (first | refine st ?_ | (refine iw ?_ ?_ <;> intro h <;> try exact ko) | intro b))
    have e : sealO x key no head data = ((sealB (UInt64.ofNat (x.issued.length + 1)) data.length, true), { x with issued := x.issued ++ [⟨key, no, head, data, sealB (UInt64.ofNat (x.issued.length + 1)) data.length⟩] }) := by unfold sealO; rw [if_pos (by omega)]
    rw [e]
    generalize hnum : UInt64.ofNat (x.issued.length + 1) = num
    refine W_draw [blk o [w, .map (some mb)], blk b (issC ⟨key, no, head, data, sealB num data.length⟩ (.slice a1 n1 c1) (.slice a2 n2 c2) (.slice a3 n3 c3))] sub' fun ro' hle hb => ?_
    obtain ⟨k1, hb⟩ := Kn.of_big hb
    obtain ⟨k2, _⟩ := Kn.of_big hb
    (repeat' (first | refine st ?_ | (refine iw ?_ ?_ <;> intro h <;> try exact ko) | intro b))
    refine W_app1 (xs := x.issued) (y := (⟨key, no, head, data, sealB num data.length⟩ : Issue)) pk' (ent_iss (x := ⟨key, no, head, data, sealB num data.length⟩) mem' mem' mem') rfl ⟨rfl, by decide, by decide⟩ (by omega) fun w' => ?_
    (refine W_slO (v := w') sees' ?_; rintro a n c rfl)
    refine fi ?_
    intro j
    refine nf ?_
    (repeat' (first | refine st ?_ | (refine iw ?_ ?_ <;> intro h <;> try exact ko) | intro b))
    refine fn (k244 ⟨key, no, head, data, sealB num data.length⟩ (.slice a1 n1 c1) (.slice a2 n2 c2) (.slice a3 n3 c3) ⟨show head.length ≤ 4000 by omega, show data.length ≤ 4000 by omega, by unfold sealB; rw [cyc_len]; omega⟩) fun q => ?_
    obtain ⟨q1, q2, q3⟩ := q
    unfold issC
    refine nf ?_
    refine W_slO (v := q3) (xs := (sealB num data.length).bytes) sees' ?_
    rintro a4 n4 c4 rfl
    (repeat' (first | refine st ?_ | (refine iw ?_ ?_ <;> intro h <;> try exact ko) | intro b))
    exact W_retE (.slice a4 n4 c4) rfl ((en' (X := orcL o mb { x with issued := x.issued ++ [⟨key, no, head, data, sealB num data.length⟩] } (.slice a n c) ++ [frz (.slice a4 n4 c4) (sealB num data.length).bytes, frz v3 head, frz v4 data])).trans ((ent_orc (x := { x with issued := x.issued ++ [⟨key, no, head, data, sealB num data.length⟩] }) _ _).trans en'))
theorem k164 {ro : HP} (o mb : Nat) (x : Orc) (ok : okOr x) : Fn Tryz.prog ro 164 [ptr o] [orcA o mb x] fun r : Value => (r, [own r x.issued, orcA o mb x]) := by
  refine c164 _ ?_
  unfold t164
  obtain ⟨ok1, ok2, ok3⟩ := ok
  refine W_exL (X := orcL o mb x) pk' fun w => ?_
  unfold orcL
  refine nf ?_
  (repeat' (first | refine st ?_ | (refine iw ?_ ?_ <;> intro h <;> try exact ko) | intro b))
  refine W_loopX x.issued.length (fun _ _ => True) (fun i r => [r, .int .i64 i]) (fun i (r : Value) => [own r (x.issued.take i), blk o [w, .map (some mb)], own w x.issued, mp mb (entsFrom 0 x.sums) x.sums.length]) (.slice none 0 0) trivial ((ent_ownNil (α := Issue)).trans en') rfl ?_
  rintro i r j hi -
  refine nf ?_
  refine st ?_
  refine iw ?_ ?_ <;> intro hlt
  · have hlt : i < x.issued.length := by omega
    refine W_ixIss (xs := x.issued) (x := x.issued[i]) sees' (by omega) hx' fun a1 n1 c1 a2 n2 c2 a3 n3 c3 => ?_
    unfold issC
    (repeat' (first | refine st ?_ | (refine iw ?_ ?_ <;> intro h <;> try exact ko) | intro b))
    refine fn (k244 x.issued[i] (.slice a1 n1 c1) (.slice a2 n2 c2) (.slice a3 n3 c3) (ok3 _ (List.getElem_mem hlt))) fun q => ?_
    obtain ⟨q1, q2, q3⟩ := q
    refine nf ?_
    refine W_app1 (xs := x.issued.take i) (y := x.issued[i]) pk' (ent_iss (x := x.issued[i]) mem' mem' mem') rfl ⟨rfl, by decide, by decide⟩ (by simp; omega) fun w' => ?_
    (repeat' (first | refine st ?_ | (refine iw ?_ ?_ <;> intro h <;> try exact ko) | intro b))
    refine fi ?_
    refine ⟨w', by omega, trivial, rfl, ?_⟩
    rw [take_succ' hlt]
    exact en'
  · have : i = x.issued.length := by omega
    subst this
    refine fi ?_
    intro j
    refine nf ?_
    rw [List.take_length]
    exact W_retE _ rfl ((en' (X := orcL o mb x w ++ [own r x.issued])).trans ((ent_orc w _).trans (Ent.swap _ _ _)))
theorem k164n {ro : HP} : Fn Tryz.prog ro 164 [nil] [] fun _ : Unit => (.slice none 0 0, []) := by
  refine c164 _ ?_
  unfold t164
  (repeat' (first | refine st ?_ | (refine iw ?_ ?_ <;> intro h <;> try exact ko) | intro b))
  (first | exact retU | exact retB)
end Go.Lb
