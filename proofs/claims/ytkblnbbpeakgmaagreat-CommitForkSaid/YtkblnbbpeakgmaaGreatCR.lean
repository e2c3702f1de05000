/- Contracts: root. No statement of the seat is proved in this file. -/
import Derived.Test.YtkblnbbpeakgmaaGreatCQ
set_option linter.all false
namespace Go.Lb
open Go.Proofs
attribute [local irreducible] WT blk fzb own frz mp exL isA Ent Tri updE drawE At Kn See SeeS

@[irreducible] def rootBytes (r : Root) : List UInt8 := putB r.count 8 ++ (putB r.ep.toUInt64 4 ++ (putB (UInt64.ofInt r.slots) 4 ++ bytesB r.hash))
theorem rootBytes_len (r : Root) : (rootBytes r).length = 32 := by
  rw [rootBytes, bytesB]
  simp [putB_len]
def putRoot (r : Root) : List UInt8 × Bool := if isG r.slots then (rootBytes r, true) else ([], false)
@[irreducible] def recBytes (n : Nonce) (s : Sealed) : List UInt8 := putB n.ep.toUInt64 4 ++ (putB n.ver 8 ++ (s.bytes ++ bytesB s.tag))
def putRec (n : Nonce) (s : Sealed) : List UInt8 × Bool := if s.bytes.length = 32 ∧ n.sl = 65535 then (recBytes n s, true) else ([], false)
theorem recBytes_len (n : Nonce) (s : Sealed) (h : s.bytes.length = 32) : (recBytes n s).length = 60 := by
  rw [recBytes, bytesB]
  simp [putB_len, h]
theorem k251 {ro : HP} (n : Int) : Fn Tryz.prog ro 251 [.int .i64 n] [] fun _ : Unit => (.bool (decide (isG n)), []) := by
  refine c251 _ ?_
  unfold t251
  (repeat' (first | refine st ?_ | (refine iw ?_ ?_ <;> intro h <;> try exact ko) | intro b))
  · (apply W_retF (); (case hv => simp [isG, *]); (case s => (try simp only [isG, *]); exact sub'))
  · (apply W_retF (); (case hv => simp [isG, *]); (case s => (try simp only [isG, *]); exact sub'))
  · exact W_retF () (by congr 1; rw [Bool.eq_iff_iff]; simp [isG, *]) sub'
theorem k178 {ro : HP} (r : Root) : Fn Tryz.prog ro 178 [agg r] [] fun u : Value => (.tuple ⟨[u, .bool (putRoot r).2]⟩, [frz u (putRoot r).1]) := by
  refine c178 _ ?_
  unfold t178
  (repeat' (first | refine st ?_ | (refine iw ?_ ?_ <;> intro h <;> try exact ko) | intro b))
  refine fn (k251 r.slots) fun _ => ?_
  refine nf ?_
  (repeat' (first | refine st ?_ | (refine iw ?_ ?_ <;> intro h <;> try exact ko) | intro b))
  · have e : putRoot r = ([], false) := by unfold putRoot; rw [if_neg h]
    rw [e]
    exact W_retE _ rfl (ent_frzNil.trans en')
  · have e : putRoot r = (rootBytes r, true) := by unfold putRoot; rw [if_pos h]
    rw [e]
    refine W_draw [blk b (Enc.enc r)] sub' fun ro' hle hb => ?_
    obtain ⟨k1, _⟩ := Kn.of_big hb
    (repeat' (first | refine st ?_ | (refine iw ?_ ?_ <;> intro h <;> try exact ko) | intro b))
    refine fn (k240 r.count 8) fun r1 => ?_
    (repeat' (first | refine st ?_ | (refine iw ?_ ?_ <;> intro h <;> try exact ko) | intro b))
    refine fn (k240 r.ep.toUInt64 4) fun r2 => ?_
    (repeat' (first | refine st ?_ | (refine iw ?_ ?_ <;> intro h <;> try exact ko) | intro b))
    refine fn (k240 (UInt64.ofInt r.slots) 4) fun r3 => ?_
    (repeat' (first | refine st ?_ | (refine iw ?_ ?_ <;> intro h <;> try exact ko) | intro b))
    refine fn (k174 r.hash) fun r4 => ?_
    refine nf ?_
    refine W_frzS (v := r1) pk' ?_
    refine W_frzS (v := r2) pk' ?_
    refine W_frzS (v := r3) pk' ?_
    refine W_frzS (v := r4) pk' ?_
    refine W_slO (v := r1) sees' ?_
    rintro a1 n1 c1 rfl
    refine W_slO (v := r2) sees' ?_
    rintro a2 n2 c2 rfl
    refine W_slO (v := r3) sees' ?_
    rintro a3 n3 c3 rfl
    refine W_slO (v := r4) sees' ?_
    rintro a4 n4 c4 rfl
    refine W_bslS (ys := [putB r.count 8, putB r.ep.toUInt64 4, putB (UInt64.ofInt r.slots) 4, bytesB r.hash]) (l := [.slice a1 n1 c1, .slice a2 n2 c2, .slice a3 n3 c3, .slice a4 n4 c4]) rfl rfl rfl ⟨by omega, rfl⟩
      (ent_row0.trans ((ent_rowc mem').trans ((ent_rowc mem').trans ((ent_rowc mem').trans (ent_rowc mem'))))) fun v => ?_
    refine W_frzS (v := v) pk' ?_
    have hfl : [putB r.count 8, putB r.ep.toUInt64 4, putB (UInt64.ofInt r.slots) 4, bytesB r.hash].flatten = rootBytes r := by rw [rootBytes]; simp
    have hlen := rootBytes_len r
    refine fn (k239 v _ (by rw [hfl, hlen]; decide) (by simp)) fun u => ?_
    rw [hfl]
    refine nf ?_
    refine W_frzS (v := u) pk' ?_
    refine fi ?_
    intro j
    refine nf ?_
    (first | exact retU | exact retB)
theorem k182 {ro : HP} (n : Nonce) (s : Sealed) (v : Value) : Fn Tryz.prog ro 182 [agg n, sealC s v] [frz v s.bytes] fun u : Value => (.tuple ⟨[u, .bool (putRec n s).2]⟩, [frz u (putRec n s).1, frz v s.bytes]) := by
  refine c182 _ _ ?_
  unfold t182 sealC
  refine W_slO (v := v) sees' ?_
  rintro a0 n0 c0 rfl
  refine st ?_
  intro b0
  refine st ?_
  intro b1
  (repeat' (first | refine st ?_ | (refine iw ?_ ?_ <;> intro h <;> try exact ko) | intro b))
  · have e : putRec n s = ([], false) := by unfold putRec; rw [if_neg (by omega)]
    rw [e]
    exact W_retE _ rfl (ent_frzNil.trans en')
  · have e : putRec n s = ([], false) := by unfold putRec; rw [if_neg (by rintro ⟨_, h'⟩; apply h; rw [h']; rfl)]
    rw [e]
    exact W_retE _ rfl (ent_frzNil.trans en')
  · have h1 : s.bytes.length = 32 := by omega
    have h2 : n.sl = 65535 := by apply u32_inj.1; rw [h]; rfl
    have e : putRec n s = (recBytes n s, true) := by unfold putRec; rw [if_pos ⟨h1, h2⟩]
    rw [e]
    refine W_draw [blk b0 (Enc.enc n), blk b1 [.slice a0 n0 c0, val s.tag.a, val s.tag.b]] sub' fun ro' hle hb => ?_
    obtain ⟨k1, hb⟩ := Kn.of_big hb
    obtain ⟨k2, _⟩ := Kn.of_big hb
    (repeat' (first | refine st ?_ | (refine iw ?_ ?_ <;> intro h <;> try exact ko) | intro b))
    refine fn (k240 n.ep.toUInt64 4) fun r1 => ?_
    (repeat' (first | refine st ?_ | (refine iw ?_ ?_ <;> intro h <;> try exact ko) | intro b))
    refine fn (k240 n.ver 8) fun r2 => ?_
    (repeat' (first | refine st ?_ | (refine iw ?_ ?_ <;> intro h <;> try exact ko) | intro b))
    refine fn (k174 s.tag) fun r4 => ?_
    refine nf ?_
    refine W_frzS (v := r1) pk' ?_
    refine W_frzS (v := r2) pk' ?_
    refine W_frzS (v := r4) pk' ?_
    refine W_slO (v := r1) sees' ?_
    rintro a1 n1 c1 rfl
    refine W_slO (v := r2) sees' ?_
    rintro a2 n2 c2 rfl
    refine W_slO (v := r4) sees' ?_
    rintro a4 n4 c4 rfl
    refine W_bslS (ys := [putB n.ep.toUInt64 4, putB n.ver 8, s.bytes, bytesB s.tag]) (l := [.slice a1 n1 c1, .slice a2 n2 c2, .slice a0 n0 c0, .slice a4 n4 c4]) rfl rfl rfl ⟨by omega, rfl⟩
      (ent_row0.trans ((ent_rowc mem').trans ((ent_rowc mem').trans ((ent_rowc mem').trans (ent_rowc mem'))))) fun v => ?_
    refine W_frzS (v := v) pk' ?_
    have hfl : [putB n.ep.toUInt64 4, putB n.ver 8, s.bytes, bytesB s.tag].flatten = recBytes n s := by rw [recBytes]; simp
    have hlen := recBytes_len n s h1
    refine fn (k239 v _ (by rw [hfl, hlen]; decide) (by simp)) fun u => ?_
    rw [hfl]
    refine nf ?_
    refine W_frzS (v := u) pk' ?_
    refine fi ?_
    intro j
    refine nf ?_
    (first | exact retU | exact retB)
def rwR (b : List UInt8) : List (List UInt8) := [b.take 8, (b.drop 8).take 4, (b.drop 12).take 4, (b.drop 16).take 16]
theorem cutR (b : List UInt8) : cutG b [8, 4, 4, 16] [] = if b.length = 32 then (rwR b, true) else ([], false) := by
  split
  · rename_i h
    simp [cutG_cons, cutG_nil, h, List.drop_drop, rwR]
  · rename_i h
    simp only [cutG_cons, cutG_nil, List.length_drop, List.drop_drop]
    repeat' split
    all_goals first | rfl | (exfalso; simp at *; omega)
def rwC (b : List UInt8) : List (List UInt8) := [b.take 4, (b.drop 4).take 8, (b.drop 12).take 32, (b.drop 44).take 16]
theorem cutC (b : List UInt8) : cutG b [4, 8, 32, 16] [] = if b.length = 60 then (rwC b, true) else ([], false) := by
  split
  · rename_i h
    simp [cutG_cons, cutG_nil, h, List.drop_drop, rwC]
  · rename_i h
    simp only [cutG_cons, cutG_nil, List.length_drop, List.drop_drop]
    repeat' split
    all_goals first | rfl | (exfalso; simp at *; omega)
def zRoot : Root := ⟨0, 0, 0, zPair⟩
def getRoot (b : List UInt8) : Root × Bool :=
  if b.length = 32 ∧ isG (IntKind.i64.wrap (getB ((b.drop 12).take 4)).1.toNat) then
    (⟨(getB (b.take 8)).1, (getB ((b.drop 8).take 4)).1.toUInt32, IntKind.i64.wrap (getB ((b.drop 12).take 4)).1.toNat, (pairB ((b.drop 16).take 16)).1⟩, true) else (zRoot, false)
def getRec (b : List UInt8) : Nonce × Sealed × Bool :=
  if b.length = 60 then (⟨(getB (b.take 4)).1.toUInt32, 65535, (getB ((b.drop 4).take 8)).1⟩, ⟨(b.drop 12).take 32, (pairB ((b.drop 44).take 16)).1⟩, true) else (zNonce, zSealed, false)
theorem k256 {ro : HP} (v : Value) (bs : List UInt8) (hl : bs.length ≤ 2 ^ 30) : Fn Tryz.prog ro 256 [v] [frz v bs] fun _ : Unit => (.tuple ⟨[agg (getRoot bs).1, .bool (getRoot bs).2]⟩, [frz v bs]) := by
  refine c256 _ ?_
  unfold t256
  refine st ?_
  intro b0
  refine W_bslS (ys := ([8, 4, 4, 16] : List Int)) (l := [.int .i64 8, .int .i64 4, .int .i64 4, .int .i64 16]) rfl rfl rfl ⟨by omega, rfl⟩ (ent_triv (reps_sc.2 rfl)) fun u => ?_
  refine fn (k257 v u bs [8, 4, 4, 16] hl (by decide)) fun r => ?_
  rw [cutR]
  by_cases hb : bs.length = 32
  · rw [if_pos hb]
    refine nf ?_
    refine st ?_
    refine st ?_
    refine st ?_
    refine st ?_
    refine W_ixF (xs := rwR bs) (x := bs.take 8) sees' (by omega) rfl fun w1 => ?_
    refine fn (k258 w1 _) fun _ => ?_
    refine nf ?_
    refine st ?_
    refine st ?_
    refine W_ixF (xs := rwR bs) (x := (bs.drop 8).take 4) sees' (by omega) rfl fun w2 => ?_
    refine fn (k258 w2 _) fun _ => ?_
    refine nf ?_
    refine st ?_
    refine st ?_
    refine W_ixF (xs := rwR bs) (x := (bs.drop 12).take 4) sees' (by omega) rfl fun w3 => ?_
    refine fn (k258 w3 _) fun _ => ?_
    refine nf ?_
    refine st ?_
    refine st ?_
    refine W_ixF (xs := rwR bs) (x := (bs.drop 16).take 16) sees' (by omega) rfl fun w4 => ?_
    refine fn (k242 w4 _) fun _ => ?_
    refine nf ?_
    (repeat' (first | refine st ?_ | (refine iw ?_ ?_ <;> intro h <;> try exact ko) | intro b))
    refine fn (k251 _) fun _ => ?_
    refine nf ?_
    (repeat' (first | refine st ?_ | (refine iw ?_ ?_ <;> intro h <;> try exact ko) | intro b))
    · have e : getRoot bs = (zRoot, false) := by unfold getRoot; rw [if_neg (by rintro ⟨_, h'⟩; exact h h')]
      rw [e]
      (first | exact retU | exact retB)
    · have e : getRoot bs = (⟨(getB (bs.take 8)).1, (getB ((bs.drop 8).take 4)).1.toUInt32, IntKind.i64.wrap (getB ((bs.drop 12).take 4)).1.toNat, (pairB ((bs.drop 16).take 16)).1⟩, true) := by unfold getRoot; rw [if_pos ⟨hb, h⟩]
      rw [e]
      (first | exact retU | exact retB)
  · rw [if_neg hb]
    have e : getRoot bs = (zRoot, false) := by unfold getRoot; rw [if_neg (by rintro ⟨h', _⟩; exact hb h')]
    rw [e]
    refine nf ?_
    (repeat' (first | refine st ?_ | (refine iw ?_ ?_ <;> intro h <;> try exact ko) | intro b))
    (first | exact retU | exact retB)
theorem k252 {ro : HP} (v : Value) (bs : List UInt8) (hl : bs.length ≤ 2 ^ 30) : Fn Tryz.prog ro 252 [v] [frz v bs] fun u : Value => (.tuple ⟨[agg (getRec bs).1, sealC (getRec bs).2.1 u, .bool (getRec bs).2.2]⟩, [frz u (getRec bs).2.1.bytes, frz v bs]) := by
  refine c252 _ ?_
  unfold t252
  refine st ?_
  intro b0
  refine st ?_
  intro b1
  refine W_bslS (ys := ([4, 8, 32, 16] : List Int)) (l := [.int .i64 4, .int .i64 8, .int .i64 32, .int .i64 16]) rfl rfl rfl ⟨by omega, rfl⟩ (ent_triv (reps_sc.2 rfl)) fun u => ?_
  refine fn (k257 v u bs [4, 8, 32, 16] hl (by decide)) fun r => ?_
  rw [cutC]
  by_cases hb : bs.length = 60
  · rw [if_pos hb]
    refine nf ?_
    refine st ?_
    refine st ?_
    refine st ?_
    refine st ?_
    refine W_ixF (xs := rwC bs) (x := bs.take 4) sees' (by omega) rfl fun w1 => ?_
    refine fn (k258 w1 _) fun _ => ?_
    refine nf ?_
    refine st ?_
    refine st ?_
    refine W_ixF (xs := rwC bs) (x := (bs.drop 4).take 8) sees' (by omega) rfl fun w2 => ?_
    refine fn (k258 w2 _) fun _ => ?_
    refine nf ?_
    refine st ?_
    refine st ?_
    refine W_ixF (xs := rwC bs) (x := (bs.drop 44).take 16) sees' (by omega) rfl fun w4 => ?_
    refine fn (k242 w4 _) fun _ => ?_
    refine nf ?_
    refine st ?_
    refine st ?_
    refine st ?_
    intro b2
    refine st ?_
    have e : getRec bs = (⟨(getB (bs.take 4)).1.toUInt32, 65535, (getB ((bs.drop 4).take 8)).1⟩, ⟨(bs.drop 12).take 32, (pairB ((bs.drop 44).take 16)).1⟩, true) := by unfold getRec; rw [if_pos hb]
    rw [e]
    refine W_draw [own r (rwC bs), blk b2 [val (pairB ((bs.drop 44).take 16)).1.a, val (pairB ((bs.drop 44).take 16)).1.b]] sub' fun ro' hle hb' => ?_
    obtain ⟨k1, hb'⟩ := Kn.of_big hb'
    obtain ⟨k2, _⟩ := Kn.of_big hb'
    refine st ?_
    refine st ?_
    refine W_ixF (xs := rwC bs) (x := (bs.drop 12).take 32) sees' (by omega) rfl fun w3 => ?_
    refine W_slO (v := w3) (xs := (bs.drop 12).take 32) sees' ?_
    rintro a3 n3 c3 rfl
    (repeat' (first | refine st ?_ | (refine iw ?_ ?_ <;> intro h <;> try exact ko) | intro b))
    refine fi ?_
    intro j
    refine nf ?_
    (repeat' (first | refine st ?_ | (refine iw ?_ ?_ <;> intro h <;> try exact ko) | intro b))
    exact W_retE (.slice a3 n3 c3) rfl en'
  · rw [if_neg hb]
    have e : getRec bs = (zNonce, zSealed, false) := by unfold getRec; rw [if_neg hb]
    rw [e]
    refine nf ?_
    (repeat' (first | refine st ?_ | (refine iw ?_ ?_ <;> intro h <;> try exact ko) | intro b))
    exact W_retE (.slice none 0 0) rfl (ent_frzNil.trans en')
end Go.Lb
