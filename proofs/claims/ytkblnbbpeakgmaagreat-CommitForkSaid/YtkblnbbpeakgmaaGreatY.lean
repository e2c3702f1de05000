/- Rules that find by themselves what they ask for. No statement of the seat is proved in this file. -/
import Derived.Test.YtkblnbbpeakgmaaGreatCA
set_option linter.all false
namespace Go.Lb
theorem getI {α : Type} {l : List α} {i : Nat} (h : i < l.length) : l[(i : Int).toNat]? = some l[i] := by simp
theorem getI' {α : Type} {l : List α} {i : Int} (h : 0 ≤ i) (h' : i.toNat < l.length) : l[i.toNat]? = some l[i.toNat] := by simp

theorem encP (p : Pair) : Enc.enc p = [val p.a, val p.b] := rfl
theorem encN (n : Nonce) : Enc.enc n = [val n.ep, val n.sl, val n.ver] := rfl
theorem encL (l : Leaf) : Enc.enc l = [val l.kind, val l.dirty, val l.lba, val l.n.ep, val l.n.sl, val l.n.ver, val l.tag.a, val l.tag.b] := rfl
theorem encR (r : Root) : Enc.enc r = [val r.count, val r.ep, val r.slots, val r.hash.a, val r.hash.b] := rfl
/-- the last two digits -/
@[irreducible] def and3 (a : Int) : Int := IntKind.i64.wrap ((BitVec.ofInt 64 a &&& BitVec.ofInt 64 3).toNat)
theorem and3_le (a : Int) : 0 ≤ and3 a ∧ and3 a ≤ 3 := by
  have h : (BitVec.ofInt 64 a &&& BitVec.ofInt 64 3).toNat ≤ 3 := by
    rw [BitVec.toNat_and]
    exact Nat.and_le_right
  rw [and3, i64_wrap (by omega)]
  omega
theorem and3_0 : and3 0 = 0 := by rw [and3]; rfl
section
variable {P : Program} {hb : Nat → Bool} {d : Bool} {ro : HP} {S : List Asrt} {R : Value → List Asrt → Prop} {Ev : Nat → List Value → List Asrt → Prop}
theorem u64_beq (a b : UInt64) : ((a.toNat : Int) == (b.toNat : Int)) = decide (a = b) := by
  rw [Bool.eq_iff_iff]; simp only [beq_iff_eq, decide_eq_true_eq]
  exact ⟨fun h => UInt64.toNat_inj.1 (by omega), fun h => by rw [h]⟩
theorem u32_beq (a b : UInt32) : ((a.toNat : Int) == (b.toNat : Int)) = decide (a = b) := by
  rw [Bool.eq_iff_iff]; simp only [beq_iff_eq, decide_eq_true_eq]
  exact ⟨fun h => UInt32.toNat_inj.1 (by omega), fun h => by rw [h]⟩
theorem W_eqP {a b c e : UInt64} {k : Value → Tr} (x : WT P hb (k (.bool (decide ((⟨a, b⟩ : Pair) = ⟨c, e⟩)))) d ro S R Ev) : WT P hb (.pu (.eqa false [some .u64, some .u64] (.agg ⟨[val a, val b]⟩) (.agg ⟨[val c, val e]⟩)) k) d ro S R Ev := by
  refine W_pu ?_ x
  show some (Value.bool (((a.toNat : Int) == (c.toNat : Int)) && (((b.toNat : Int) == (e.toNat : Int)) && true))) = _
  rw [u64_beq, u64_beq]
  congr 2
  rw [Bool.eq_iff_iff]; simp
theorem W_neP {a b c e : UInt64} {k : Value → Tr} (x : WT P hb (k (.bool (!decide ((⟨a, b⟩ : Pair) = ⟨c, e⟩)))) d ro S R Ev) : WT P hb (.pu (.eqa true [some .u64, some .u64] (.agg ⟨[val a, val b]⟩) (.agg ⟨[val c, val e]⟩)) k) d ro S R Ev := by
  refine W_pu ?_ x
  show some (Value.bool (!(((a.toNat : Int) == (c.toNat : Int)) && (((b.toNat : Int) == (e.toNat : Int)) && true)))) = _
  rw [u64_beq, u64_beq]
  congr 3
  rw [Bool.eq_iff_iff]; simp
theorem W_eqN {a c : UInt32} {b e : UInt32} {f g : UInt64} {k : Value → Tr} (x : WT P hb (k (.bool (decide ((⟨a, b, f⟩ : Nonce) = ⟨c, e, g⟩)))) d ro S R Ev) :
    WT P hb (.pu (.eqa false [some .u32, some .u32, some .u64] (.agg ⟨[val a, val b, val f]⟩) (.agg ⟨[val c, val e, val g]⟩)) k) d ro S R Ev := by
  refine W_pu ?_ x
  show some (Value.bool (((a.toNat : Int) == (c.toNat : Int)) && (((b.toNat : Int) == (e.toNat : Int)) && (((f.toNat : Int) == (g.toNat : Int)) && true)))) = _
  rw [u32_beq, u32_beq, u64_beq]
  congr 2
  rw [Bool.eq_iff_iff]; simp
theorem W_and3 {a : Int} {k : Value → Tr} (x : WT P hb (k (.int .i64 (and3 a))) d ro S R Ev) : WT P hb (.pu (.bin .and (.int .i64 a) (.int .i64 3)) k) d ro S R Ev :=
  W_pu (by rw [and3]; rfl) x
theorem W_neL {a1 b1 a3 b3 : Int} {a2 b2 : Bool} {a4 b4 a5 b5 : UInt32} {a6 b6 a7 b7 a8 b8 : UInt64} {k : Value → Tr} (x : WT P hb (k (.bool (!decide ((⟨a1, a2, a3, ⟨a4, a5, a6⟩, ⟨a7, a8⟩⟩ : Leaf) = ⟨b1, b2, b3, ⟨b4, b5, b6⟩, ⟨b7, b8⟩⟩)))) d ro S R Ev) :
    WT P hb (.pu (.eqa true [some .i64, none, some .i64, some .u32, some .u32, some .u64, some .u64, some .u64] (.agg ⟨[val a1, val a2, val a3, val a4, val a5, val a6, val a7, val a8]⟩) (.agg ⟨[val b1, val b2, val b3, val b4, val b5, val b6, val b7, val b8]⟩)) k) d ro S R Ev := by
  refine W_pu ?_ x
  show some (Value.bool (!((a1 == b1) && ((a2 == b2) && ((a3 == b3) && (((a4.toNat : Int) == (b4.toNat : Int)) && (((a5.toNat : Int) == (b5.toNat : Int)) && (((a6.toNat : Int) == (b6.toNat : Int)) && (((a7.toNat : Int) == (b7.toNat : Int)) && (((a8.toNat : Int) == (b8.toNat : Int)) && true)))))))))) = _
  rw [u32_beq, u32_beq, u64_beq, u64_beq, u64_beq]
  congr 3
  rw [Bool.eq_iff_iff]
  simp only [Bool.and_eq_true, beq_iff_eq, decide_eq_true_eq, Leaf.mk.injEq, Nonce.mk.injEq, Pair.mk.injEq, and_true]
  constructor
  · rintro ⟨h1, h2, h3, h4, h5, h6, h7, h8⟩; exact ⟨h1, h2, h3, ⟨h4, h5, h6⟩, h7, h8⟩
  · rintro ⟨h1, h2, h3, ⟨h4, h5, h6⟩, h7, h8⟩; exact ⟨h1, h2, h3, h4, h5, h6, h7, h8⟩
theorem W_eqL {a1 b1 a3 b3 : Int} {a2 b2 : Bool} {a4 b4 a5 b5 : UInt32} {a6 b6 a7 b7 a8 b8 : UInt64} {k : Value → Tr} (x : WT P hb (k (.bool (decide ((⟨a1, a2, a3, ⟨a4, a5, a6⟩, ⟨a7, a8⟩⟩ : Leaf) = ⟨b1, b2, b3, ⟨b4, b5, b6⟩, ⟨b7, b8⟩⟩)))) d ro S R Ev) :
    WT P hb (.pu (.eqa false [some .i64, none, some .i64, some .u32, some .u32, some .u64, some .u64, some .u64] (.agg ⟨[val a1, val a2, val a3, val a4, val a5, val a6, val a7, val a8]⟩) (.agg ⟨[val b1, val b2, val b3, val b4, val b5, val b6, val b7, val b8]⟩)) k) d ro S R Ev := by
  refine W_pu ?_ x
  show some (Value.bool ((a1 == b1) && ((a2 == b2) && ((a3 == b3) && (((a4.toNat : Int) == (b4.toNat : Int)) && (((a5.toNat : Int) == (b5.toNat : Int)) && (((a6.toNat : Int) == (b6.toNat : Int)) && (((a7.toNat : Int) == (b7.toNat : Int)) && (((a8.toNat : Int) == (b8.toNat : Int)) && true))))))))) = _
  rw [u32_beq, u32_beq, u64_beq, u64_beq, u64_beq]
  congr 2
  rw [Bool.eq_iff_iff]
  simp only [Bool.and_eq_true, beq_iff_eq, decide_eq_true_eq, Leaf.mk.injEq, Nonce.mk.injEq, Pair.mk.injEq, and_true]
  constructor
  · rintro ⟨h1, h2, h3, h4, h5, h6, h7, h8⟩; exact ⟨h1, h2, h3, ⟨h4, h5, h6⟩, h7, h8⟩
  · rintro ⟨h1, h2, h3, ⟨h4, h5, h6⟩, h7, h8⟩; exact ⟨h1, h2, h3, h4, h5, h6, h7, h8⟩
theorem W_eqL0 {a1 a3 : Int} {a2 : Bool} {a4 a5 : UInt32} {a6 a7 a8 : UInt64} {k : Value → Tr} (x : WT P hb (k (.bool (decide ((⟨a1, a2, a3, ⟨a4, a5, a6⟩, ⟨a7, a8⟩⟩ : Leaf) = zLeaf)))) d ro S R Ev) :
    WT P hb (.pu (.eqa false [some .i64, none, some .i64, some .u32, some .u32, some .u64, some .u64, some .u64] (.agg ⟨[val a1, val a2, val a3, val a4, val a5, val a6, val a7, val a8]⟩) (.agg ⟨[.int .i64 0, .bool false, .int .i64 0, .int .u32 0, .int .u32 0, .int .u64 0, .int .u64 0, .int .u64 0]⟩)) k) d ro S R Ev :=
  W_eqL (b1 := 0) (b2 := false) (b3 := 0) (b4 := 0) (b5 := 0) (b6 := 0) (b7 := 0) (b8 := 0) x
theorem W_eqL2 {a1 a3 b3 : Int} {a2 : Bool} {a4 a5 : UInt32} {a6 a7 a8 : UInt64} {k : Value → Tr} (x : WT P hb (k (.bool (decide ((⟨a1, a2, a3, ⟨a4, a5, a6⟩, ⟨a7, a8⟩⟩ : Leaf) = ⟨2, true, b3, zNonce, zPair⟩)))) d ro S R Ev) :
    WT P hb (.pu (.eqa false [some .i64, none, some .i64, some .u32, some .u32, some .u64, some .u64, some .u64] (.agg ⟨[val a1, val a2, val a3, val a4, val a5, val a6, val a7, val a8]⟩) (.agg ⟨[.int .i64 2, .bool true, val b3, .int .u32 0, .int .u32 0, .int .u64 0, .int .u64 0, .int .u64 0]⟩)) k) d ro S R Ev :=
  W_eqL (b1 := 2) (b2 := true) (b3 := b3) (b4 := 0) (b5 := 0) (b6 := 0) (b7 := 0) (b8 := 0) x
end
/-- a picks; a part -/
theorem pk' {S R : List Asrt} {A : Asrt} (h : Pick S A R := by first | ((repeat' first | exact Pick.hd | apply Pick.tl); done) | fail) : Pick S A R := h
theorem mem' {S : List Asrt} {A : Asrt} (h : Mem A S := by first | ((repeat' first | exact Mem.hd | apply Mem.tl); done) | fail) : Mem A S := h
theorem sub' {S l R : List Asrt} (h : Sub S l R := by first | ((repeat' first | exact Pick.hd | exact Sub.nil | apply Sub.cons | apply Pick.tl); done) | fail) : Sub S l R := h
theorem see' {d : Bool} {ro : HP} {S : List Asrt} {b : Nat} {l : List Value} (h : See d ro S b l := by first | ((first | exact See.blk (At.kn (by assumption)) | exact See.fz (At.kn (by assumption)) | exact See.blk (At.mem mem') | exact See.fz (At.mem mem'))) | fail) : See d ro S b l := h
theorem at' {d : Bool} {ro : HP} {S : List Asrt} {A : Asrt} (h : At d ro S A := by first | ((first | exact At.kn (by assumption) | exact At.mem mem')) | fail) : At d ro S A := h
theorem sees' {α : Type} {rα : Rep α} {d : Bool} {ro : HP} {S : List Asrt} {v : Value} {xs : List α} (h : SeeS d ro S v xs := by first | ((first | exact SeeS.frz (At.kn (by assumption)) | exact SeeS.own (At.kn (by assumption)) | exact SeeS.frz (At.mem mem') | exact SeeS.own (At.mem mem'))) | fail) : SeeS d ro S v xs := h
theorem hx' {α : Type} {xs : List α} {i : Nat} {x : α} (h : xs[i]? = some x := by first | ((first | ((with_reducible refine getI ?_); omega) | exact getI' (by omega) (by omega) | assumption)) | fail) : xs[i]? = some x := h
theorem en' {S X S' : List Asrt} (s : Sub S X S' := by first | (exact sub') | fail) : Ent S X := s.ent'
/-- a goal as it is reckoned out -/
theorem nf {G G' : Prop} (x : G') (e : G' = G := by first | ((try dsimp only [List.cons_append, List.nil_append, sl_zero, sl_succ, List.take_succ_cons, List.drop, List.take_zero, List.set_cons_zero, List.set_cons_succ, splice, cells_int, cells_bool, cells_sl, cells_ptr, cells_str, cells_func, cells_agg, cells_u64, cells_u32, cells_u8, cells_i64, cells_b, cells_enc, encP, encN, encL, encR, List.length_cons, List.length_nil, Nat.reduceAdd]) <;> exact rfl) | fail) : G := e ▸ x
/-- a step -/
theorem st {G G' goal : Prop} (x : G') (h : G → goal := by first | (first
    | exact W_iteT | exact W_iteF | exact W_nck | exact W_fad0
    | (apply W_ld; (case m => exact see'); (case h => first | rfl | assumption))
    | (apply W_ldN; (case m => exact see'); (case hn => exact Nat.le_of_ble_eq_true rfl))
    | (apply W_st1; (case pk => exact pk'); (case h1 => first | rfl | assumption); (case hn => first | exact Nat.le_of_ble_eq_true rfl | assumption))
    | (apply W_stAgg; (case pk => exact pk'); (case hl => rfl); (case hn => rfl); (case h1 => rfl))
    | (apply W_st; (case pk => exact pk'); (case hv => rfl); (case hn => exact Nat.le_of_ble_eq_true rfl); (case h1 => rfl))
    | exact W_add (by omega) | exact W_sub' (by omega) | exact W_mul (by omega) | exact W_quo (by omega) | exact W_rem (by omega)
    | exact W_u64inc | exact W_u64add | exact W_u64sub | exact W_u32add | exact W_u64xor | exact W_u64or
    | exact W_u64shl (by omega) | exact W_u64shr (by omega) | exact W_i64u64 | exact W_u64u8 | exact W_u64u32 | exact W_u8u64 | exact W_u32u64 | exact W_i64u32
    | (apply W_len; (case m => exact sees'))
    | (apply W_ixV; (case m => exact sees'); (case h => omega); (case hx => exact hx'))
    | (apply W_ixE; (case m => exact sees'); (case he => rfl); (case h => omega); (case hx => exact hx'))
    | (apply W_ixEf; (case m => exact sees'); (case he => rfl); (case h => omega); (case hx => exact hx'); (case hf => exact Nat.le_of_ble_eq_true rfl); (case hu => rfl))
    | (apply W_ixF; (case m => exact sees'); (case h => omega); (case hx => exact hx'))
    | exact W_aad (by omega) | exact W_eqP | exact W_neP | exact W_eqN | exact W_and3 | exact W_neL | exact W_eqL | exact W_eqL0 | exact W_eqL2
    | exact W_pu rfl | exact W_bxAgg | exact W_bx rfl | exact W_nw) | fail)
  (e : G' = G := by first | ((try dsimp only [List.cons_append, List.nil_append, sl_zero, sl_succ, List.take_succ_cons, List.drop, List.take_zero, List.set_cons_zero, List.set_cons_succ, splice, cells_int, cells_bool, cells_sl, cells_ptr, cells_str, cells_func, cells_agg, cells_u64, cells_u32, cells_u8, cells_i64, cells_b, cells_enc, encP, encN, encL, encR, List.length_cons, List.length_nil, Nat.reduceAdd]) <;> exact rfl) | fail) : goal := h (e ▸ x)
/-- two ways -/
theorem iw {A A' B B' C D goal : Prop} (x : A' → C) (y : B' → D) (h : (A → C) → (B → D) → goal := by first | exact W_iteN | exact W_iteNP | exact W_iteP | exact W_iteE | exact W_iteNe | exact W_iteB | fail)
    (e : A = A' := by first | ((try simp only [Bool.not_eq_true', Bool.not_eq_false', Bool.not_eq_true, Bool.not_eq_false, Bool.not_not, beq_iff_eq, beq_eq_false_iff_ne, bne_iff_ne, bne_eq_false_iff_eq, ne_eq, decide_eq_true_eq, decide_eq_false_iff_not]) <;> exact rfl) | fail)
    (f : B = B' := by first | ((try simp only [Bool.not_eq_true', Bool.not_eq_false', Bool.not_eq_true, Bool.not_eq_false, Bool.not_not, beq_iff_eq, beq_eq_false_iff_ne, bne_iff_ne, bne_eq_false_iff_eq, ne_eq, decide_eq_true_eq, decide_eq_false_iff_not]) <;> exact rfl) | fail) : goal := h (e ▸ x) (f ▸ y)
/-- what may not be -/
theorem ko {g : Prop} (h : False := by first | (first | omega | contradiction | (simp_all; done)) | fail) : g := h.elim

section
variable {P : Program} {hb : Nat → Bool} {d : Bool} {ro : HP} {S : List Asrt} {R : Value → List Asrt → Prop} {Ev : Nat → List Value → List Asrt → Prop}
theorem fn {β : Type} {f : Nat} {args : List Value} {k : Value → Tr} {Sp S' : List Asrt} {post : β → Value × List Asrt} {G : β → Prop} (c : Fn P ro f args Sp post) (x : ∀ b, G b) (s : Sub S Sp S' := by first | (exact sub') | fail)
    (e : (∀ b, G b) = (∀ b, WT P hb (k (post b).1) d ro ((post b).2 ++ S') R Ev) := by first | ((try dsimp only [List.cons_append, List.nil_append, sl_zero, sl_succ, encP, encN, encL, encR]) <;> exact rfl) | fail) : WT P hb (.call f args k) d ro S R Ev := W_fn c s (e ▸ x)
theorem retU {post : Unit → Value × List Asrt} {v : Value} {S' : List Asrt} (hv : v = (post ()).1 := by first | (rfl) | fail) (s : Sub S (post ()).2 S' := by first | (exact sub') | fail) : WT P hb (.ret v) false ro S (PostF post) Ev := W_retF () hv s
theorem retB {β : Type} {post : β → Value × List Asrt} {v : Value} {S' : List Asrt} {b : β} (hv : v = (post b).1 := by first | (rfl) | fail) (s : Sub S (post b).2 S' := by first | (exact sub') | fail) : WT P hb (.ret v) false ro S (PostF post) Ev := W_retF b hv s
end
section
variable {P : Program} {hb : Nat → Bool} {d : Bool} {ro : HP} {S : List Asrt} {R : Value → List Asrt → Prop} {Ev : Nat → List Value → List Asrt → Prop}
theorem fnv {β : Type} {f : Nat} {args fs cap : List Value} {k : Value → Tr} {Sp S' : List Asrt} {post : β → Value × List Asrt} {G : β → Prop} (c : Fn P ro f (fs ++ args ++ cap) Sp post) (x : ∀ b, G b) (hf : hb f = true := by first | rfl | assumption | fail) (s : Sub S Sp S' := by first | (exact sub') | fail)
    (e : (∀ b, G b) = (∀ b, WT P hb (k (post b).1) d ro ((post b).2 ++ S') R Ev) := by first | ((try dsimp only [List.cons_append, List.nil_append, sl_zero, sl_succ, encP, encN, encL, encR]) <;> exact rfl) | fail) : WT P hb (.callv (.func (.func f) ⟨fs⟩ ⟨cap⟩) args k) d ro S R Ev := W_fnv hf c s (e ▸ x)
/-- a thing with what it bears -/
theorem W_rep {β : Type} {t : List Value → Tr} {c : List Value} {A : Asrt} {X : β → List Value} {Y : β → Asrt} (i : ∀ g, A g → ∃ b, c = X b ∧ Y b g) (h : ∀ b, WT P hb (t (X b)) d ro (Y b :: S) R Ev) : WT P hb (t c) d ro (A :: S) R Ev :=
  W_conv .hd (B := fun g => ∃ b, c = X b ∧ Y b g) i (W_exA (X := fun b g => c = X b ∧ Y b g) fun b => W_pure .hd (p := c = X b) (fun g a => a.1) fun e => by rw [e]; exact W_conv .hd (fun g a => a.2) (h b))
theorem ent_and {A B : Asrt} (a : Dup A) : Ent ((fun h => A h ∧ B h) :: S) (A :: B :: S) := fun h ⟨h1, h2, ⟨x, y⟩, s, dj, l1, l2⟩ =>
  ⟨fzp h1, hun h1 h2, a _ x, ⟨h1, h2, y, s, dj, hle_un_l _ _, hle_un_r dj⟩, hdj_un (fzp_dj h1) (hdj_sym (hdj_le (hdj_sym dj) (fzp_le h1))), hle_trans (fzp_le h1) l1, hun_le l1 l2⟩
theorem W_ixOp {v : Value} {xs : List DOp} {q : IntKind} {i : Int} {x : DOp} {k : Value → Tr} (y : ∀ a n c, WT P hb (k (.agg ⟨[.int .i64 x.off, .slice a n c]⟩)) d ro (frz (.slice a n c) x.bytes :: S) R Ev) (m : SeeS d ro S v xs := by first | (exact sees') | fail) (h : 0 ≤ i := by first | (omega) | fail) (hx : xs[i.toNat]? = some x := by first | (exact hx') | fail) :
    WT P hb (.pu (.iad 2 v (.int q i)) fun z => .rd (.ld true 2 z) k) d ro S R Ev :=
  W_ixN m rfl h hx fun c _ => W_rep (t := fun c => k (.agg ⟨c⟩)) (fun g a => reps_one.1 a) fun u => W_slO (SeeS.frz (At.mem .hd)) fun a n c e => by subst e; exact y a n c
/-- the rest of a slice is made nought -/
theorem W_clrAt {α : Type} {rα : Rep α} {es : Nat} {ez : List Value} {v u : Value} {xs : List α} {z : α} {q : IntKind} {i : Int} {S1 : List Asrt} {k : Value → Tr} (hu : slcV es v (some (.int q i)) none none = some u) (pk : Pick S (own v xs) S1) (he : es = Rep.es α) (hz : ∀ g, Rep.rep z ez g) (hi : 0 ≤ i ∧ i ≤ xs.length)
    (x : WT P hb (k (.tuple #[])) d ro (own v (xs.take i.toNat ++ List.replicate (xs.length - i.toNat) z) :: S1) R Ev) : WT P hb (.hv (.clr es ez u) k) d ro S R Ev := by
  subst he
  obtain ⟨j, rfl⟩ : ∃ j : Nat, i = j := ⟨i.toNat, by omega⟩
  simp only [Int.toNat_natCast] at *
  have hj : j ≤ xs.length := by omega
  have hpos := Rep.pos (α := α)
  have hezl : ez.length = Rep.es α := Rep.len (hz fun _ => none)
  have hezo : (repL ez (xs.length - j)).all Value.oneCell' = true := reps_oc (reps_repL hz (xs.length - j) fun _ => none)
  refine W_ent pk.ent ?_
  intro F w0 w hs
  rcases hs.own_open with ⟨rfl, rfl, h⟩ | ⟨b, off, cap, pre, post, cells, rfl, hcap, hpre, hpost, hlen, h⟩
  · have : j = 0 := by simpa using hj
    subst this
    have hu' : u = .slice none 0 0 := by
      simp [slcV, bndV, intOfV] at hu
      exact hu.symm
    subst hu'
    exact ⟨_, _, _, rfl, hs, by simpa using x⟩
  · have hu' : u = .slice (some ⟨b, if cap = j then off else off + j * Rep.es α, none⟩) (xs.length - j) (cap - j) := by
      simp only [slcV, bndV_none, bndV, intOfV] at hu
      rw [if_pos ⟨by omega, by omega⟩] at hu
      simp only [Option.isSome_none, Bool.and_false, Bool.false_eq_true, if_false, Int.toNat_natCast, Option.some.injEq] at hu
      rw [← hu]
      split <;> simp [Addr.add_eq]
    subst hu'
    by_cases h0 : xs.length - j = 0
    · refine ⟨.tuple #[], w, _, ?_, hs, ?_⟩
      · simp only [Hv.run, hezl, hpos, h0]
        simp
      · have : j = xs.length := by omega
        subst this
        simpa using x
    · have hrl : (repL ez (xs.length - j)).length = (xs.length - j) * Rep.es α := by rw [repL_len, hezl]
      have hsum : j * Rep.es α + (repL ez (xs.length - j)).length ≤ cells.length := by
        rw [hrl, hlen, ← Nat.add_mul]
        exact Nat.mul_le_mul_right _ (by omega)
      obtain ⟨o, eo, ⟨t, fz, rfl, hfz⟩, up⟩ := hs_upd (.hd) h
      refine ⟨.tuple #[], _, _, ?_, (up _ _ (isBlk_splice (off := off + j * Rep.es α) (xs := repL ez (xs.length - j)) (e := t) hfz (by simp; omega))).ent ?_, x⟩
      · simp only [Hv.run, hezl, hpos, h0, if_false, and_self, if_true]
        rw [if_neg (by omega), wr_blk eo hfz (by simp; omega) hezo]
        rfl
      · subst hpre
        rw [splice_mid hsum]
        have hn : j + (List.replicate (xs.length - j) z).length = xs.length := by simp; omega
        refine (Ent.cons _ ((ent_triv (reps_repL hz (xs.length - j) fun _ => none)).trans ((Ent.swap _ _ _).trans (ent_reps2 (zs := xs.take j ++ List.replicate (xs.length - j) z) (f := splice cells (j * Rep.es α) (repL ez (xs.length - j))) fun h a b => ?_)))).trans ?_
        · have := reps_splice (i := j) a b (by simp; omega)
          rw [hn, List.drop_length, List.append_nil] at this
          exact this
        · have hl : (xs.take j ++ List.replicate (xs.length - j) z).length = xs.length := by simp; omega
          have := ent_own (S := S1) (b := b) (off := pre.length) (cap := cap) (pre := pre) (cells := splice cells (j * Rep.es α) (repL ez (xs.length - j))) (post := post) (xs := xs.take j ++ List.replicate (xs.length - j) z) (by omega) rfl (by rw [hl]; exact hpost)
          rw [hl] at this
          exact this
def emp : Asrt := fun _ => True
theorem ent_emp : Ent S (emp :: S) := ent_triv trivial
end
section
variable {P : Program} {hb : Nat → Bool} {d : Bool} {ro : HP} {S : List Asrt} {R : Value → List Asrt → Prop} {Ev : Nat → List Value → List Asrt → Prop}
/-- the state is, among others, this one -/
theorem W_to {t : Tr} (X : List Asrt) {S' : List Asrt} (h : WT P hb t d ro X R Ev) (s : Sub S X S' := by first | (exact sub') | fail) : WT P hb t d ro S R Ev := W_ent s.ent' h
/-- so many rounds at most -/
theorem W_loopX {β : Type} {n : Nat} {vs : List Value} {body k : List Value → (Nat → Value) → Tr} (N : Nat) (C : Nat → β → Prop) (V : Nat → β → List Value) (X : Nat → β → List Asrt) (b0 : β)
    (h0 : C 0 b0) (e : Ent S (X 0 b0)) (hv : vs = V 0 b0)
    (hr : ∀ i b j, i ≤ N → C i b → WT P hb (body (V i b) j) false ro (X i b) R (updE (updE Ev n fun vs' S'' => ∃ b', i < N ∧ C (i + 1) b' ∧ vs' = V (i + 1) b' ∧ Ent S'' (X (i + 1) b')) (n + 1) fun vs' S'' => ∀ j, WT P hb (k vs' j) false ro S'' R Ev)) :
    WT P hb (.loop n vs body k) false ro S R Ev := by
  refine W_loop (I := fun m vs S' => ∃ i b, i ≤ N ∧ m = N - i ∧ C i b ∧ vs = V i b ∧ Ent S' (X i b)) N e ⟨0, b0, by omega, by omega, h0, hv, Ent.refl _⟩ ?_
  rintro m vs j S' ⟨i, b, hi, rfl, hc, rfl, es⟩
  refine W_ent es ?_
  refine WT.mono _ (fun _ _ h => h) (leE_upd (fun q => ?_) fun _ _ h => h) (hr i b j hi hc)
  intro vs' S'' h
  unfold updE at h ⊢
  split
  · rename_i hq
    rw [if_pos hq] at h
    obtain ⟨b', h1, h2, h3, h4⟩ := h
    exact ⟨N - (i + 1), by omega, i + 1, b', by omega, rfl, h2, h3, h4⟩
  · rename_i hq
    rw [if_neg hq] at h
    exact h
end
/-- the end of a part -/
theorem fi {G goal : Prop} (x : G) (h : G → goal := by first | (intro x; (repeat apply W_fin_up (by decide)); (first | exact W_fin_draw x | exact W_fin_same x)) | fail) : goal := h x
end Go.Lb
