/- Plain facts: numbers as bytes and back, leaves and roots as bytes and back, parts of what is laid. No statement of the seat is proved in this file. -/
import Derived.Test.YtkblnbbpeakgmaaGreatCX
set_option linter.all false
namespace Go.Lb

/-! ### numbers as bytes -/
theorem gstep_nat (v : UInt64) (c : UInt8) (a : Nat) (ha : v.toNat = a) (h : a * 256 + 255 < 18446744073709551616) : (gstep v c).toNat = a * 256 + c.toNat := by
  have hc := c.toNat_lt
  rw [gstep, UInt64.toNat_or, UInt8.toNat_toUInt64]
  have h1 : (shl64 v 8).toNat = a * 2 ^ 8 := by
    unfold shl64
    rw [UInt64.toNat_ofNat', ha]
    omega
  rw [h1, ← Nat.shiftLeft_eq, ← Nat.shiftLeft_add_eq_or_of_lt (by omega), Nat.shiftLeft_eq]
theorem fold_nat : ∀ (bs : List UInt8) (v : UInt64) (a : Nat), v.toNat = a → (a + 1) * 256 ^ bs.length ≤ 18446744073709551616 → (bs.foldl gstep v).toNat = bs.foldl (fun a c => a * 256 + c.toNat) a
  | [], _, _, h, _ => h
  | c :: bs, v, a, h, hb => by
    have hc := c.toNat_lt
    have e : (a + 1) * 256 ^ (bs.length + 1) = (a * 256 + 256) * 256 ^ bs.length := by rw [Nat.pow_succ, Nat.mul_comm (256 ^ bs.length) 256, ← Nat.mul_assoc, Nat.add_mul, Nat.one_mul]
    rw [List.length_cons, e] at hb
    have hp : 1 ≤ 256 ^ bs.length := Nat.one_le_pow _ _ (by decide)
    have hle : (a * 256 + 256) * 1 ≤ (a * 256 + 256) * 256 ^ bs.length := Nat.mul_le_mul_left _ hp
    rw [List.foldl_cons, List.foldl_cons]
    refine fold_nat bs _ _ (gstep_nat v c a h (by omega)) (Nat.le_trans (Nat.mul_le_mul_right _ (by omega)) hb)
def putL (v : UInt64) (n : Nat) : List UInt8 := (List.range n).map fun i => (shr64 v (8 * (n - 1 - i))).toUInt8
theorem putL_succ (v : UInt64) (n : Nat) : putL v (n + 1) = (shr64 v (8 * n)).toUInt8 :: putL v n := by
  unfold putL
  rw [List.range_succ_eq_map, List.map_cons, List.map_map]
  congr 1
  refine List.map_congr_left fun i _ => ?_
  simp only [Function.comp]
  congr 3
  omega
theorem fold_put (v : UInt64) : ∀ (n a : Nat), (putL v n).foldl (fun a c => a * 256 + c.toNat) a = a * 256 ^ n + v.toNat % 256 ^ n
  | 0, a => by simp [putL, Nat.mod_one]
  | n + 1, a => by
    have e : (shr64 v (8 * n)).toUInt8.toNat = v.toNat / 256 ^ n % 256 := by
      rw [UInt64.toNat_toUInt8, shr64, UInt64.toNat_ofNat']
      have h : 2 ^ (8 * n) = 256 ^ n := by rw [Nat.pow_mul]
      have h1 := v.toNat_lt
      have h2 : v.toNat / 256 ^ n ≤ v.toNat := Nat.div_le_self _ _
      rw [h]
      omega
    rw [putL_succ, List.foldl_cons, fold_put v n, e, Nat.pow_succ, Nat.mod_mul]
    generalize 256 ^ n = q
    rw [Nat.add_mul, Nat.mul_comm (v.toNat / q % 256) q, Nat.mul_assoc, Nat.mul_comm 256 q]
    omega
theorem putB_putL (v : UInt64) {n : Nat} (h : 1 ≤ n ∧ n ≤ 8) : putB v n = putL v n := by rw [putB, if_pos h]; rfl
theorem get_put (v : UInt64) {n : Nat} (h : 1 ≤ n ∧ n ≤ 8) : getB (putB v n) = (UInt64.ofNat (v.toNat % 256 ^ n), true) := by
  have hl : (putB v n).length = n := by rw [putB_len, if_pos h]
  rw [getB_in (by omega)]
  congr 1
  apply UInt64.toNat_inj.1
  have hlt : v.toNat % 256 ^ n < 256 ^ n := Nat.mod_lt _ (Nat.one_le_pow _ _ (by decide))
  have hp : 256 ^ n ≤ 18446744073709551616 := by
    have : (256 : Nat) ^ n ≤ 256 ^ 8 := Nat.pow_le_pow_right (by decide) h.2
    exact this
  rw [fold_nat (putB v n) 0 0 rfl (by rw [hl]; omega), putB_putL v h, fold_put, UInt64.toNat_ofNat']
  simp only [Nat.zero_mul, Nat.zero_add]
  omega
theorem get_put8 (v : UInt64) : getB (putB v 8) = (v, true) := by
  rw [get_put v (by omega)]
  congr 1
  apply UInt64.toNat_inj.1
  have := v.toNat_lt
  rw [UInt64.toNat_ofNat', Nat.mod_eq_of_lt (show v.toNat < 256 ^ 8 from this)]
  omega
theorem get_put_lt (v : UInt64) {n : Nat} (h : 1 ≤ n ∧ n ≤ 8) (hv : v.toNat < 256 ^ n) : getB (putB v n) = (v, true) := by
  rw [get_put v h, Nat.mod_eq_of_lt hv]
  simp
theorem get_put_u32 (x : UInt32) : (getB (putB x.toUInt64 4)).1.toUInt32 = x := by
  have h := x.toNat_lt
  rw [get_put_lt _ (by omega) (by rw [UInt32.toNat_toUInt64]; exact h)]
  apply UInt32.toNat_inj.1
  simp
theorem pair_bytes (p : Pair) : pairB (bytesB p) = (p, true) := by
  have h := bytesB_len p
  rw [pairB, if_pos h, bytesB]
  have h8 : (putB p.a 8).length = 8 := by rw [putB_len]; rfl
  rw [List.take_left' h8, List.drop_left' h8, get_put8, get_put8]
/-- a part -/
def sub {α : Type} (b : List α) (o n : Nat) : List α := (b.drop o).take n
theorem sub_mid {α : Type} (a b c : List α) {o n : Nat} (ha : a.length = o) (hb : b.length = n) : sub (a ++ (b ++ c)) o n = b := by
  unfold sub
  rw [List.drop_left' ha, List.take_left' hb]
theorem sub_end {α : Type} (a b : List α) {o n : Nat} (ha : a.length = o) (hb : b.length = n) : sub (a ++ b) o n = b := by
  unfold sub
  rw [List.drop_left' ha, List.take_of_length_le (by omega)]
theorem root_get (r : Root) (h : isG r.slots) : getRoot (rootBytes r) = (r, true) := by
  have hl := rootBytes_len r
  have l1 : (putB r.count 8).length = 8 := by rw [putB_len]; rfl
  have l2 : (putB r.ep.toUInt64 4).length = 4 := by rw [putB_len]; rfl
  have l3 : (putB (UInt64.ofInt r.slots) 4).length = 4 := by rw [putB_len]; rfl
  have l4 := bytesB_len r.hash
  have e1 : (rootBytes r).take 8 = putB r.count 8 := by rw [rootBytes, List.take_left' l1]
  have e2 : ((rootBytes r).drop 8).take 4 = putB r.ep.toUInt64 4 := by rw [rootBytes, List.drop_left' l1, List.take_left' l2]
  have e3 : ((rootBytes r).drop 12).take 4 = putB (UInt64.ofInt r.slots) 4 := by
    rw [rootBytes, ← List.append_assoc, List.drop_left' (by simp [l1, l2]), List.take_left' l3]
  have e4 : ((rootBytes r).drop 16).take 16 = bytesB r.hash := by
    rw [rootBytes, ← List.append_assoc, ← List.append_assoc, List.drop_left' (by simp [l1, l2, l3]), List.take_of_length_le (by omega)]
  have hs : IntKind.i64.wrap (getB (putB (UInt64.ofInt r.slots) 4)).1.toNat = r.slots := by
    rcases h with h | h | h <;> rw [h] <;> kernel_rfl
  unfold getRoot
  rw [e1, e2, e3, e4, hs, if_pos ⟨hl, h⟩, get_put8, get_put_u32, pair_bytes]
theorem rec_get (n : Nonce) (s : Sealed) (h : s.bytes.length = 32) (hn : n.sl = 65535) : getRec (recBytes n s) = (n, s, true) := by
  have hl := recBytes_len n s h
  have l1 : (putB n.ep.toUInt64 4).length = 4 := by rw [putB_len]; rfl
  have l2 : (putB n.ver 8).length = 8 := by rw [putB_len]; rfl
  have l4 := bytesB_len s.tag
  have e1 : (recBytes n s).take 4 = putB n.ep.toUInt64 4 := by rw [recBytes, List.take_left' l1]
  have e2 : ((recBytes n s).drop 4).take 8 = putB n.ver 8 := by rw [recBytes, List.drop_left' l1, List.take_left' l2]
  have e3 : ((recBytes n s).drop 12).take 32 = s.bytes := by
    rw [recBytes, ← List.append_assoc, List.drop_left' (by simp [l1, l2]), List.take_left' h]
  have e4 : ((recBytes n s).drop 44).take 16 = bytesB s.tag := by
    rw [recBytes, ← List.append_assoc, ← List.append_assoc, List.drop_left' (by simp [l1, l2, h]), List.take_of_length_le (by omega)]
  unfold getRec
  rw [e1, e2, e3, e4, if_pos hl, get_put8, get_put_u32, pair_bytes]
  obtain ⟨ep, sl, ver⟩ := n
  simp only at hn
  subst hn
  rfl
theorem small_get (k : Int) {n : Nat} (h : 1 ≤ n ∧ n ≤ 4) (hk : 0 ≤ k ∧ k < 256 ^ n) : IntKind.i64.wrap (getB (putB (UInt64.ofInt k) n)).1.toNat = k := by
  have hp : (256 : Nat) ^ n ≤ 256 ^ 4 := Nat.pow_le_pow_right (by decide) h.2
  have hp' : (256 : Int) ^ n = ((256 ^ n : Nat) : Int) := by rw [Int.natCast_pow]; rfl
  rw [hp'] at hk
  have h4 : (256 : Nat) ^ 4 = 4294967296 := rfl
  have he : (UInt64.ofInt k).toNat = k.toNat := by
    simp only [UInt64.ofInt, UInt64.toNat_ofNat']
    omega
  rw [get_put_lt _ (by omega) (by rw [he]; omega), he, i64_wrap (by omega)]
  omega
theorem isLeaf_slot {l : Leaf} {slot : Int} (h : isLeaf l slot = true) : 0 ≤ slot ∧ slot < 16 := by
  unfold isLeaf at h
  split at h
  · cases h
  · omega
theorem isLeaf_cases {l : Leaf} {slot : Int} (h : isLeaf l slot = true) : l = zLeaf ∨ (isLba l.lba ∧ l = ⟨2, true, l.lba, zNonce, zPair⟩) ∨ (l.kind = 1 ∧ isLba l.lba ∧ l.n.sl = UInt32.ofInt slot ∧ 0 < l.n.ep) := by
  unfold isLeaf at h
  split at h
  · cases h
  split at h
  · left; simpa using h
  split at h
  · right; left
    simpa using h
  split at h
  · right; right
    rename_i hk
    simp only [Bool.and_eq_true, decide_eq_true_eq] at h
    exact ⟨hk, h.1, h.2.1, h.2.2⟩
  · cases h
theorem leaf_get {l : Leaf} {slot : Int} (h : isLeaf l slot = true) : getLeaf (leafBytes l) slot = (l, true) := by
  have hl := leafBytes_len l
  have l1 : (putB (UInt64.ofInt l.kind) 1).length = 1 := by rw [putB_len]; rfl
  have l2 : (putB (if l.dirty then 1 else 0) 1).length = 1 := by rw [putB_len]; rfl
  have l3 : (putB (UInt64.ofInt l.lba) 2).length = 2 := by rw [putB_len]; rfl
  have l4 : (putB l.n.ep.toUInt64 4).length = 4 := by rw [putB_len]; rfl
  have l5 : (putB l.n.ver 8).length = 8 := by rw [putB_len]; rfl
  have l6 := bytesB_len l.tag
  have e1 : (leafBytes l).take 1 = putB (UInt64.ofInt l.kind) 1 := by rw [leafBytes, List.take_left' l1]
  have e2 : ((leafBytes l).drop 1).take 1 = putB (if l.dirty then 1 else 0) 1 := by rw [leafBytes, List.drop_left' l1, List.take_left' l2]
  have e3 : ((leafBytes l).drop 2).take 2 = putB (UInt64.ofInt l.lba) 2 := by
    rw [leafBytes, ← List.append_assoc, List.drop_left' (by simp [l1, l2]), List.take_left' l3]
  have e4 : ((leafBytes l).drop 4).take 4 = putB l.n.ep.toUInt64 4 := by
    rw [leafBytes, ← List.append_assoc, ← List.append_assoc, List.drop_left' (by simp [l1, l2, l3]), List.take_left' l4]
  have e5 : ((leafBytes l).drop 8).take 8 = putB l.n.ver 8 := by
    rw [leafBytes, ← List.append_assoc, ← List.append_assoc, ← List.append_assoc, List.drop_left' (by simp [l1, l2, l3, l4]), List.take_left' l5]
  have e6 : ((leafBytes l).drop 16).take 16 = bytesB l.tag := by
    rw [leafBytes, ← List.append_assoc, ← List.append_assoc, ← List.append_assoc, ← List.append_assoc, List.drop_left' (by simp [l1, l2, l3, l4, l5]), List.take_of_length_le (by omega)]
  have hd : (((getB (putB (if l.dirty then (1 : UInt64) else 0) 1)).1.toNat : Int) == 1) = l.dirty := by
    cases l.dirty <;> kernel_rfl
  have hk : 0 ≤ l.kind ∧ l.kind < 3 ∧ 0 ≤ l.lba ∧ l.lba < 32 := by
    rcases isLeaf_cases h with e | ⟨⟨h1, h2⟩, e⟩ | ⟨h1, ⟨h2, h3⟩, _⟩
    · rw [e]; decide
    · have hk2 : l.kind = 2 := by rw [e]
      omega
    · omega
  have hkk : leafKind (leafBytes l) = l.kind := by
    unfold leafKind
    rw [e1, small_get _ (by omega) (by omega)]
  have hsl : (if l.kind = 1 then UInt32.ofInt slot else 0) = l.n.sl := by
    rcases isLeaf_cases h with e | ⟨_, e⟩ | ⟨h1, _, h3, _⟩
    · rw [e]; rfl
    · rw [e]; rfl
    · rw [if_pos h1, h3]
  have ep : parseLeaf (leafBytes l) slot = l := by
    unfold parseLeaf
    rw [hkk, e2, e3, e4, e5, e6, hd, hsl, get_put8, get_put_u32, pair_bytes, small_get _ (by omega) (by omega)]
  unfold getLeaf
  have hput : putLeaf l slot = (leafBytes l, true) := by unfold putLeaf; rw [if_pos h]
  rw [if_pos hl, ep, hput, if_pos ⟨rfl, rfl⟩]
/-! ### parts of what is laid -/
theorem sub_len {α : Type} (b : List α) {o n : Nat} (h : o + n ≤ b.length) : (sub b o n).length = n := by simp [sub]; omega
theorem sub_get {α : Type} {b : List α} {o n i : Nat} (hi : i < n) : (sub b o n)[i]? = b[o + i]? := by
  unfold sub
  rw [List.getElem?_take, if_pos hi, List.getElem?_drop]
theorem sub_ext {α : Type} {b c : List α} {o q n : Nat} (h : ∀ i, i < n → b[o + i]? = c[q + i]?) : sub b o n = sub c q n := by
  apply List.ext_getElem?
  intro i
  by_cases hi : i < n
  · rw [sub_get hi, sub_get hi, h i hi]
  · rw [List.getElem?_eq_none (by simp [sub]; omega), List.getElem?_eq_none (by simp [sub]; omega)]
theorem lay_get {α : Type} {b bs : List α} {off : Nat} (h : off + bs.length ≤ b.length) (i : Nat) : (lay b off bs)[i]? = if off ≤ i ∧ i < off + bs.length then bs[i - off]? else b[i]? := by
  unfold lay
  rw [List.take_of_length_le (l := bs) (by omega), List.append_assoc]
  have ht : (b.take off).length = off := by simp; omega
  by_cases h1 : i < off
  · rw [List.getElem?_append_left (by omega), List.getElem?_take, if_pos h1, if_neg (by omega)]
  · rw [List.getElem?_append_right (by omega), ht]
    by_cases h2 : i < off + bs.length
    · rw [List.getElem?_append_left (by omega), if_pos (by omega)]
    · rw [List.getElem?_append_right (by omega), List.getElem?_drop, if_neg (by omega)]
      congr 1
      omega
theorem sub_lay_ne {α : Type} {b bs : List α} {off o n : Nat} (h : off + bs.length ≤ b.length) (hd : o + n ≤ off ∨ off + bs.length ≤ o) : sub (lay b off bs) o n = sub b o n :=
  sub_ext fun i hi => by rw [lay_get h, if_neg (by omega)]
theorem sub_lay_in {α : Type} {b bs : List α} {off o n : Nat} (h : off + bs.length ≤ b.length) (h1 : off ≤ o) (h2 : o + n ≤ off + bs.length) : sub (lay b off bs) o n = sub bs (o - off) n :=
  sub_ext fun i hi => by rw [lay_get h, if_pos (by omega)]; congr 1; omega
theorem sub_all {α : Type} (b : List α) : sub b 0 b.length = b := by simp [sub]
theorem sub_flat {ls : List Leaf} {i : Nat} (hi : i < ls.length) : sub (rowsOf ls).flatten (32 * i) 32 = leafBytes ls[i] := by
  have e0 : ls = ls.take i ++ ls[i] :: ls.drop (i + 1) := by rw [← List.drop_eq_getElem_cons hi, List.take_append_drop]
  have e : (rowsOf ls).flatten = (rowsOf (ls.take i)).flatten ++ (leafBytes ls[i] ++ (rowsOf (ls.drop (i + 1))).flatten) := by
    have := congrArg (fun l => (rowsOf l).flatten) e0
    simpa only [rowsOf, List.map_append, List.map_cons, List.flatten_append, List.flatten_cons] using this
  rw [e]
  exact sub_mid _ _ _ (by rw [flat_rows, List.length_take, Nat.min_eq_left (by omega)]) (leafBytes_len _)
end Go.Lb
