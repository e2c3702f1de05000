/- Contracts: Mul64, Repeat, Grow, Concat. No statement of the seat is proved in this file. -/
import Derived.Test.YtkblnbbpeakgmaaGreatCK
set_option linter.all false
namespace Go.Lb
open Go.Proofs
attribute [local irreducible] WT blk fzb own frz mp exL isA Ent Tri updE drawE At Kn See SeeS

theorem bu_and {a : Int} (h : 0 ≤ a ∧ a < 4294967296) : (Pu.bin .and (.int .u64 a) (.int .u64 4294967295)).ev = some (.int .u64 a) := by
  show some (Value.int .u64 (IntKind.u64.wrap ((BitVec.ofInt 64 a &&& BitVec.ofInt 64 4294967295).toNat))) = _
  have h2 : (BitVec.ofInt 64 4294967295).toNat = 2 ^ 32 - 1 := by decide
  have h3 : (BitVec.ofInt 64 a).toNat = a.toNat := by rw [BitVec.toNat_ofInt]; omega
  rw [BitVec.toNat_and, h2, h3, Nat.and_two_pow_sub_one_eq_mod, u64_wrap]
  congr 2
  omega
theorem bu_shr {a : Int} (h : 0 ≤ a ∧ a < 4294967296) : (Pu.bin .shr (.int .u64 a) (.int .u64 32)).ev = some (.int .u64 0) := by
  show okShift .shr .u64 a 32 = _
  unfold okShift
  rw [if_neg (by omega)]
  show some (Value.int .u64 (a.fdiv (2 ^ 32))) = _
  congr 2
  rw [Int.fdiv_eq_ediv_of_nonneg _ (by decide)]
  omega
theorem bu_mul0 {a : Int} : (Pu.bin .mul (.int .u64 0) (.int .u64 a)).ev = some (.int .u64 0) := by
  show some (Value.int .u64 (IntKind.u64.wrap (0 * a))) = _
  rw [Int.zero_mul]; rfl
theorem bu_mul0' {a : Int} : (Pu.bin .mul (.int .u64 a) (.int .u64 0)).ev = some (.int .u64 0) := by
  show some (Value.int .u64 (IntKind.u64.wrap (a * 0))) = _
  rw [Int.mul_zero]; rfl
theorem bu_mul {a b : Int} (h : 0 ≤ a * b ∧ a * b < 18446744073709551616) : (Pu.bin .mul (.int .u64 a) (.int .u64 b)).ev = some (.int .u64 (a * b)) := by
  show some (Value.int .u64 (IntKind.u64.wrap (a * b))) = _
  rw [u64_wrap]; congr 2; omega
theorem k331 {ro : HP} (a b : Int) (ha : 0 ≤ a ∧ a < 4294967296) (hb : 0 ≤ b ∧ b < 4294967296) (hab : 0 ≤ a * b ∧ a * b < 4294967296) : Fn Tryz.prog ro 331 [.int .u64 a, .int .u64 b] [] fun _ : Unit => (.tuple ⟨[.int .u64 0, .int .u64 (a * b)]⟩, []) := by
  refine c331 _ _ ?_
  unfold t331
  refine W_pu (bu_and ha) (W_pu (bu_shr ha) (W_pu (bu_and hb) (W_pu (bu_shr hb) (W_pu (bu_mul (by omega)) (W_pu bu_mul0 (W_pu (bu_shr hab) (W_pu (v := .int .u64 0) rfl (W_pu (v := .int .u64 0) rfl (W_pu (v := .int .u64 0) rfl (W_pu bu_mul0' (W_pu (v := .int .u64 0) rfl (W_pu (v := .int .u64 0) rfl (W_pu (v := .int .u64 0) rfl (W_pu (v := .int .u64 0) rfl (W_pu (v := .int .u64 0) rfl (W_pu (bu_mul (by omega)) ?_))))))))))))))))
  (first | exact retU | exact retB)
theorem k301 {ro : HP} (a b : Int) (ha : 0 ≤ a ∧ a < 4294967296) (hb : 0 ≤ b ∧ b < 4294967296) (hab : 0 ≤ a * b ∧ a * b < 4294967296) : Fn Tryz.prog ro 301 [.int .u64 a, .int .u64 b] [] fun _ : Unit => (.tuple ⟨[.int .u64 0, .int .u64 (a * b)]⟩, []) := by
  refine c301 _ _ ?_
  unfold t301
  refine fn (k331 a b ha hb hab) fun _ => ?_
  refine nf ?_
  (repeat' (first | refine st ?_ | (refine iw ?_ ?_ <;> intro h <;> try exact ko) | intro b))
  (first | exact retU | exact retB)

/-- bytes, again and again -/
@[irreducible] def cyc (one : List UInt8) (n : Nat) : List UInt8 := (List.range n).map fun k => one[k % 8]?.getD 0
theorem cyc_len {one : List UInt8} {n : Nat} : (cyc one n).length = n := by simp [cyc]
theorem cyc_take {one : List UInt8} {n m : Nat} (h : m ≤ n) : (cyc one n).take m = cyc one m := by
  rw [cyc, cyc, ← List.map_take, List.take_range, Nat.min_eq_left h]
theorem cyc_add {one : List UInt8} {n m : Nat} (h : n % 8 = 0) : cyc one (n + m) = cyc one n ++ cyc one m := by
  rw [cyc, cyc, cyc, List.range_add, List.map_append, List.map_map]
  congr 1
  refine List.map_congr_left fun k _ => ?_
  simp only [Function.comp]
  congr 2
  omega
theorem cyc_8 {one : List UInt8} (h : one.length = 8) : cyc one 8 = one := by
  rw [cyc]
  apply List.ext_getElem
  · simp [h]
  · intro i h1 h2
    simp at h1
    simp [Nat.mod_eq_of_lt h1, h2]
theorem k245 {ro : HP} {A : Asrt} (v : Value) (one : List UInt8) (c : Nat) (hA : ∀ g, A g → seen v one g) (h8 : one.length = 8) (hc : 1 ≤ c ∧ c ≤ 600) : Fn Tryz.prog ro 245 [v, .int .i64 c] [A] fun r : Value => (r, [own r (cyc one (8 * c)), A]) := by
  refine c245 _ _ ?_
  unfold t245
  have see : ∀ {S}, Mem A S → SeeS false ro S v one := fun m => SeeS.of (At.mem m) hA
  (repeat' (first | refine st ?_ | (refine iw ?_ ?_ <;> intro h <;> try exact ko) | intro b))
  refine W_len (see mem') ?_
  rw [h8]
  refine W_cvi (m := 8) rfl ?_
  refine W_cvi (m := c) (by rw [u64_wrap]; omega) ?_
  refine fn (k301 8 c (by omega) (by omega) (by omega)) fun _ => ?_
  refine nf ?_
  (repeat' (first | refine st ?_ | (refine iw ?_ ?_ <;> intro h <;> try exact ko) | intro b))
  rw [i64_wrap (n := 8 * (c : Int)) (by omega)]
  refine W_len (see mem') ?_
  rw [h8]
  (repeat' (first | refine st ?_ | (refine iw ?_ ?_ <;> intro h <;> try exact ko) | intro b))
  refine W_mnz (n := 8 * c) (by omega) fun v1 xs hxs => ?_
  have hne : xs ≠ [] := by intro h; rw [h] at hxs; simp at hxs; omega
  refine W_clipO pk' rfl (by omega) (by omega) hne fun u => ?_
  refine W_cpy0 (ys := one) pk' (see mem') rfl ?_
  rw [h8, hxs, Nat.min_eq_left (by omega)]
  have hl0 := lay_len (xs := xs) (ys := one) (i := 0) (by omega)
  refine W_loop (I := fun m vs S' => ∃ (bp : Nat) (L : List UInt8), L.length = 8 * c ∧ 8 ≤ bp ∧ bp ≤ 8 * c ∧ bp % 8 = 0 ∧ L.take bp = cyc one bp ∧ m = 8 * c - bp ∧ vs = [.int .i64 bp] ∧ S' = [own u L, A]) (8 * c - 8) (Ent.refl _) ⟨8, lay xs 0 one, by omega, by omega, by omega, rfl, ?_, rfl, rfl, rfl⟩ ?_
  · rw [cyc_8 h8, lay, List.take_zero, List.nil_append, List.take_append_of_le_length (by simp; omega), List.take_of_length_le (l := one) (by omega), List.take_of_length_le (by omega)]
  rintro m vs j S' ⟨bp, L, hL, h1, h2, h3, h4, rfl, rfl, rfl⟩
  refine nf ?_
  refine st ?_
  refine iw ?_ ?_ <;> intro hlt
  · have hlt : bp < 8 * c := by omega
    refine W_pu (v := .int .i64 bp) (by simp only [Pu.ev]; rw [if_neg (by omega)]) ?_
    refine W_draw [] Sub.nil fun ro' hle hb => ?_
    refine W_cpySelf (i := bp) (c := bp) pk' rfl (by omega) (by omega) (by omega) ?_
    (repeat' (first | refine st ?_ | (refine iw ?_ ?_ <;> intro h <;> try exact ko) | intro b))
    refine fi ?_
    intro j
    refine nf ?_
    refine fi ?_
    refine ⟨8 * c - (bp + min bp (L.length - bp)), by omega, bp + min bp (L.length - bp), lay L bp (L.take bp), ?_, by omega, by omega, ?_, ?_, rfl, by simp, rfl⟩
    · rw [lay_len (by omega), hL]
    · rw [hL]; omega
    · rw [lay, h4]
      have e1 : (cyc one bp).take (L.length - bp) = cyc one (min bp (L.length - bp)) := by
        by_cases hh : L.length - bp ≤ bp
        · rw [cyc_take hh, Nat.min_eq_right hh]
        · rw [List.take_of_length_le (by rw [cyc_len]; omega), Nat.min_eq_left (by omega)]
      rw [e1, ← cyc_add h3, List.take_append_of_le_length (by rw [cyc_len]; omega), List.take_of_length_le (by rw [cyc_len]; omega)]
  · have : bp = 8 * c := by omega
    subst this
    rw [List.take_of_length_le (by omega)] at h4
    subst h4
    refine fi ?_
    intro j
    refine nf ?_
    (first | exact retU | exact retB)

/-- slices.Grow of nothing -/
theorem k299 {ro : HP} (n : Nat) (hn : n ≤ 2 ^ 40) : Fn Tryz.prog ro 299 [.slice none 0 0, .int .i64 n] [] fun r : Value => (r, [own r ([] : List UInt8)]) := by
  refine c299 _ _ ?_
  unfold t299
  refine st ?_
  refine iw ?_ ?_ <;> intro h0
  · omega
  refine W_pu rfl (W_pu rfl (W_sub' (by omega) ?_))
  refine W_sub' (by omega) ?_
  refine st ?_
  refine iw ?_ ?_ <;> intro h1
  · refine W_pu (v := .int .i64 0) rfl (W_pu (v := .slice none 0 0) rfl ?_)
    rw [show (n : Int) - ((0 : Nat) - (0 : Nat)) = (n : Int) from by omega]
    refine W_apz0 (z := (0 : UInt8)) rfl (fun _ => rfl) (by decide) (by omega) (by omega) fun v => ?_
    refine W_pu (v := .int .i64 0) rfl ?_
    refine W_takeO (c := 0) pk' rfl (fun cap _ => by rw [bndV_int (by omega)]; rfl) (by omega) fun u => ?_
    (first | exact retU | exact retB)
  · exact W_retE _ rfl ent_ownNil

theorem flat_take {rows : List (List UInt8)} {i : Nat} (h : i < rows.length) : (rows.take (i + 1)).flatten = (rows.take i).flatten ++ rows[i] := by
  rw [take_succ' h, List.flatten_append, List.flatten_singleton]
theorem flat_le {rows : List (List UInt8)} (i : Nat) : (rows.take i).flatten.length ≤ rows.flatten.length := by
  conv => rhs; rw [← List.take_append_drop i rows, List.flatten_append, List.length_append]
  omega
theorem k239 {ro : HP} (v : Value) (rows : List (List UInt8)) (hl : rows.flatten.length ≤ 2 ^ 40) (hr : rows.length ≤ 2 ^ 40) : Fn Tryz.prog ro 239 [v] [frz v rows] fun r : Value => (r, [own r rows.flatten, frz v rows]) := by
  refine c239 _ ?_
  unfold t239
  refine W_len (xs := rows) sees' ?_
  refine W_loopX rows.length (fun _ _ => True) (fun i _ => [.int .i64 (rows.take i).flatten.length, .int .i64 i]) (fun i (_ : Unit) => [frz v rows]) () trivial en' rfl ?_
  rintro i _ j hi -
  refine nf ?_
  refine st ?_
  refine iw ?_ ?_ <;> intro hlt
  · have hlt : i < rows.length := by omega
    refine W_join ?_
    have e := flat_take hlt
    have e2 := flat_le (rows := rows) (i + 1)
    have e3 : (rows.take (i + 1)).flatten.length = (rows.take i).flatten.length + rows[i].length := by rw [e, List.length_append]
    refine W_ixF (xs := rows) (x := rows[i]) sees' (by omega) hx' fun u => ?_
    refine W_len (xs := rows[i]) sees' ?_
    refine W_add (by omega) ?_
    refine st ?_
    refine iw ?_ ?_ <;> intro h0
    · omega
    · refine fi ?_
      intro j
      refine nf ?_
      (repeat' (first | refine st ?_ | (refine iw ?_ ?_ <;> intro h <;> try exact ko) | intro b))
      refine fi ?_
      refine ⟨(), by omega, trivial, ?_, en'⟩
      rw [e3]
      simp
  · have : i = rows.length := by omega
    subst this
    refine fi ?_
    intro j
    rw [List.take_length]
    refine nf ?_
    refine fn (k299 rows.flatten.length hl) fun r => ?_
    refine nf ?_
    refine W_len (xs := rows) sees' ?_
    refine W_loopX rows.length (fun _ _ => True) (fun i r => [r, .int .i64 i]) (fun i (r : Value) => [own r (rows.take i).flatten, frz v rows]) r trivial (by simpa using en') rfl ?_
    rintro i r j hi -
    refine nf ?_
    refine st ?_
    refine iw ?_ ?_ <;> intro hlt
    · have hlt : i < rows.length := by omega
      have e := flat_take hlt
      have e2 := flat_le (rows := rows) (i + 1)
      rw [e, List.length_append] at e2
      refine W_ixF (xs := rows) (x := rows[i]) sees' (by omega) hx' fun u => ?_
      refine W_appS (xs := (rows.take i).flatten) (ys := rows[i]) pk' sees' rfl ⟨rfl, by decide, by decide⟩ (by omega) fun w => ?_
      (repeat' (first | refine st ?_ | (refine iw ?_ ?_ <;> intro h <;> try exact ko) | intro b))
      refine fi ?_
      refine ⟨w, by omega, trivial, rfl, ?_⟩
      rw [e]
      exact en'
    · have : i = rows.length := by omega
      subst this
      refine fi ?_
      intro j
      rw [List.take_length]
      refine nf ?_
      (first | exact retU | exact retB)
end Go.Lb
