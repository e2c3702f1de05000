/- Regions that draw their order, closed. No statement of the seat is proved in this file. -/
import Derived.Test.YtkblnbbpeakgmaaGreatI
set_option linter.all false
namespace Go.Lb
section
variable {P : Program} {ops : Array Oper} {ty : Nat → Option TyI} {ro : HP}

theorem mem_mask {acc : List Nat} {o : Oper} {x : Nat} (h : (befMask acc o).testBit x = true) : ∃ e ∈ o.after, Region.binds .any e = true ∧ (x = e.on ∨ (acc.getD e.on 0).testBit x = true) := by
  unfold befMask at h
  have key : ∀ (l : List Edge) (s : Nat), (l.foldl (fun s e => if Region.binds .any e then s ||| 2 ^ e.on ||| acc.getD e.on 0 else s) s).testBit x = true →
      s.testBit x = true ∨ ∃ e ∈ l, Region.binds .any e = true ∧ (x = e.on ∨ (acc.getD e.on 0).testBit x = true) := by
    intro l
    induction l with
    | nil => intro s h; exact .inl h
    | cons e l ih =>
      intro s h
      rw [List.foldl_cons] at h
      rcases ih _ h with h | ⟨e', he', h⟩
      · split at h
        · rename_i hb
          simp only [Nat.testBit_or, Bool.or_eq_true, Nat.testBit_two_pow, decide_eq_true_eq] at h
          rcases h with (h | h) | h
          · exact .inl h
          · exact .inr ⟨e, by simp, hb, .inl h.symm⟩
          · exact .inr ⟨e, by simp, hb, .inr h⟩
        · exact .inl h
      · exact .inr ⟨e', by simp [he'], h⟩
  rcases key _ _ h with h | ⟨e, he, h⟩
  · simp at h
  · exact ⟨e, by simpa using he, h⟩

theorem befGo_spec : ∀ (l : List Oper) (acc : List Nat), (befGo l acc).take acc.length = acc ∧ (befGo l acc).length = acc.length + l.length ∧
    ∀ k o, l[k]? = some o → (befGo l acc)[acc.length + k]? = some (befMask ((befGo l acc).take (acc.length + k)) o)
  | [], acc => by simp [befGo]
  | o :: l, acc => by
    obtain ⟨h1, h2, h3⟩ := befGo_spec l (acc ++ [befMask acc o])
    simp only [befGo]
    simp only [List.length_append, List.length_singleton] at h1 h2 h3
    refine ⟨?_, by simp [h2]; omega, ?_⟩
    · have := congrArg (List.take acc.length) h1
      rw [List.take_take] at this
      simpa [Nat.min_eq_left] using this
    · intro k o' hk
      cases k with
      | zero =>
        simp at hk
        subst hk
        have ht : (befGo l (acc ++ [befMask acc o])).take acc.length = acc := by
          have := congrArg (List.take acc.length) h1
          rw [List.take_take] at this
          simpa [Nat.min_eq_left] using this
        simp only [Nat.add_zero, ht]
        have := congrArg (fun l => l[acc.length]?) h1
        simp only [List.getElem?_take] at this
        simpa using this
      | succ k =>
        have := h3 k o' (by simpa using hk)
        rw [show acc.length + (k + 1) = acc.length + 1 + k from by omega]
        exact this

theorem befs_get {l : List Oper} {k : Nat} {o : Oper} (h : l[k]? = some o) : (befs l).getD k 0 = befMask ((befs l).take k) o := by
  have := (befGo_spec l []).2.2 k o h
  simp only [List.length_nil, Nat.zero_add] at this
  unfold befs
  rw [List.getD_eq_getElem?_getD, this]
  rfl

def Closed (ops : Array Oper) (listed : Array Bool) : Prop :=
  ∀ (j : Nat) (o : Oper), ops[j]? = some o → listed.getD j false = true → ∀ e ∈ o.after, Region.binds .any e = true → listed.getD e.on false = true

theorem reach_listed {listed : Array Bool} (hc : Closed ops listed) : ∀ (y : Nat) (o : Oper) (x : Nat), ops[y]? = some o → (∀ e ∈ o.after, Region.binds .any e = true → listed.getD e.on false = true) →
    ((befs ops.toList).getD y 0).testBit x = true → listed.getD x false = true := by
  intro y
  induction y using Nat.strongRecOn with
  | _ y ih =>
    intro o x ho hd hb
    rw [befs_get (l := ops.toList) (k := y) (o := o) (by simpa using ho)] at hb
    obtain ⟨e, he, hbind, hx⟩ := mem_mask hb
    rcases hx with rfl | hx
    · exact hd e he hbind
    · rw [List.getD_eq_getElem?_getD, List.getElem?_take] at hx
      split at hx
      · rename_i hlt
        rw [← List.getD_eq_getElem?_getD] at hx
        cases ho' : ops[e.on]? with
        | none =>
          have : (befs ops.toList).length = ops.size := by simpa [befs] using (befGo_spec ops.toList []).2.1
          rw [List.getD_eq_getElem?_getD, List.getElem?_eq_none (by rw [this]; exact Array.getElem?_eq_none_iff.1 ho')] at hx
          simp at hx
        | some o' => exact ih e.on hlt o' x ho' (hc _ _ ho' (hd e he hbind)) hx
      · simp at hx

theorem pairsOk_spec {f : Nat → Nat → Bool} : ∀ {l : List Nat}, pairsOk f l = true ↔ l.Pairwise (fun i j => f i j = true)
  | [] => by simp [pairsOk]
  | i :: l => by simp [pairsOk, pairsOk_spec (l := l), List.pairwise_cons]

/-- what is not listed yet -/
def Left (ops : Array Oper) (listed : Array Bool) (c : List Nat) : Prop := listed.size = ops.size ∧ c.Nodup ∧ (∀ i, i ∈ c ↔ (i < ops.size ∧ listed.getD i false = false)) ∧ Closed ops listed

theorem left_getD {listed : Array Bool} {i : Nat} (hs : listed.size = ops.size) (hi : i < ops.size) : listed.getD i true = listed.getD i false := by
  simp [Array.getElem?_eq_getElem (show i < listed.size by omega)]

theorem left_nil {listed : Array Bool} {c : List Nat} (hlt : ∀ (j : Nat) (o : Oper), ops[j]? = some o → ∀ e ∈ o.after, Region.binds .any e = true → e.on < j) (h : Left ops listed c) (hr : Region.ready .any ops listed = []) : c = [] := by
  obtain ⟨hs, _, hmem, _⟩ := h
  cases hcn : c with
  | nil => rfl
  | cons x xs =>
    exfalso
    have hex : ∃ i, i ∈ c := ⟨x, by rw [hcn]; simp⟩
    have hmin : ∃ i, i ∈ c ∧ ∀ j, j < i → j ∉ c := by
      obtain ⟨i, hi⟩ := hex
      induction i using Nat.strongRecOn with
      | _ i ih =>
        by_cases h : ∃ j, j < i ∧ j ∈ c
        · obtain ⟨j, hj, hjc⟩ := h
          exact ih j hj hjc
        · exact ⟨i, hi, fun j hj hjc => h ⟨j, hj, hjc⟩⟩
    obtain ⟨i, hi, hm⟩ := hmin
    have hi' := (hmem i).1 hi
    have : i ∈ Region.ready .any ops listed := by
      rw [mem_ready]
      obtain ⟨o, ho⟩ : ∃ o, ops[i]? = some o := ⟨_, Array.getElem?_eq_getElem hi'.1⟩
      refine ⟨by rw [left_getD hs hi'.1]; exact hi'.2, o, ho, fun e he hb => ?_⟩
      have hei := hlt i o ho e he hb
      have := hm e.on hei
      rw [hmem] at this
      have hes : e.on < ops.size := by omega
      cases hl : listed.getD e.on false with
      | true => rfl
      | false => exact absurd ⟨hes, hl⟩ this
    rw [hr] at this
    cases this

theorem left_ready {listed : Array Bool} {c : List Nat} {i : Nat} (h : Left ops listed c) (hi : i ∈ Region.ready .any ops listed) : i ∈ c ∧ ∃ o, ops[i]? = some o ∧ (∀ e ∈ o.after, Region.binds .any e = true → listed.getD e.on false = true) := by
  obtain ⟨hs, _, hmem, _⟩ := h
  rw [mem_ready] at hi
  obtain ⟨h0, o, ho, hdeps⟩ := hi
  have hlt' : i < ops.size := (Array.getElem?_eq_some_iff.1 ho).1
  rw [left_getD hs hlt'] at h0
  exact ⟨(hmem i).2 ⟨hlt', h0⟩, o, ho, hdeps⟩

theorem left_next {listed : Array Bool} {c1 c2 : List Nat} {i : Nat} {o : Oper} (h : Left ops listed (c1 ++ i :: c2)) (ho : ops[i]? = some o) (hdeps : ∀ e ∈ o.after, Region.binds .any e = true → listed.getD e.on false = true) :
    Left ops (listed.setIfInBounds i true) (c1 ++ c2) := by
  obtain ⟨hs, hnd, hmem, hcl⟩ := h
  have hlt' : i < ops.size := (Array.getElem?_eq_some_iff.1 ho).1
  have hnd' : (c1 ++ c2).Nodup := hnd.sublist (List.Sublist.append (List.Sublist.refl _) (List.sublist_cons_self _ _))
  have hni : i ∉ c1 ++ c2 := by
    have := hnd
    rw [List.nodup_append] at this
    obtain ⟨_, h2, h3⟩ := this
    intro hm
    rcases List.mem_append.1 hm with hm | hm
    · exact h3 i hm i (by simp) rfl
    · exact (List.nodup_cons.1 h2).1 hm
  refine ⟨by simp [hs], hnd', ?_, ?_⟩
  · intro j
    by_cases hji : j = i
    · subst hji
      simp only [hni, false_iff, not_and]
      intro _
      simp [show j < listed.size by omega]
    · have h1 : j ∈ c1 ++ c2 ↔ j ∈ c1 ++ i :: c2 := by simp [hji]
      rw [h1, hmem, getD_set_ne false (fun e => hji e.symm)]
  · intro j oj hj hl e he hb
    by_cases hji : j = i
    · subst hji
      rw [ho] at hj
      cases hj
      exact getD_set_true (hdeps e he hb)
    · rw [getD_set_ne false (fun e => hji e.symm)] at hl
      exact getD_set_true (hcl j oj hj hl e he hb)

theorem draw_any {K : Act → List Asrt → Prop} {Q : Exit → Act → World → Prop} {F : Asrt} {w0 : World} {ct : List Nat} {cf : Op → Nat} (hk : ∀ a X X', Ent X X' → K a X' → K a X)
    (hQ : ∀ fuel listed a w S, ct.length ≤ fuel → Left ops listed ct → K a S → Hs ro S F w0 w → wpAny P .any ops Q fuel listed a w)
    (hsel : ∀ (j : Nat) (o : Oper), ops[j]? = some o → noSel o.op = true) (hlt : ∀ (j : Nat) (o : Oper), ops[j]? = some o → ∀ e ∈ o.after, Region.binds .any e = true → e.on < j) :
    ∀ (fuel : Nat) (listed : Array Bool) (c : List Nat) (a : Act) (S : List Asrt) (w : World), (c ++ ct).length ≤ fuel → Left ops listed (c ++ ct) →
      c.Pairwise (fun i j => ((befs ops.toList).getD j 0).testBit i = true ∨ (cf = cls ty ∧ pairOk ty ops (befs ops.toList) i j = true)) → (∀ i ∈ c, ∀ j ∈ ct, ((befs ops.toList).getD j 0).testBit i = true) → DOps P cf ops ro c a S K → Hs ro S F w0 w → wpAny P .any ops Q fuel listed a w := by
  intro fuel
  induction fuel with
  | zero =>
    intro listed c a S w hf hl hp _ h hw
    have hc : c = [] := by cases c with | nil => rfl | cons x c => simp at hf
    subst hc
    exact hQ _ _ _ _ _ (by simpa using hf) hl (h ⟨F, w0, w, hw⟩) hw
  | succ fuel ih =>
    intro listed c a S w hf hl hp hx h hw
    cases hcc : c with
    | nil => subst hcc; exact hQ _ _ _ _ _ (by simpa using hf) hl (h ⟨F, w0, w, hw⟩) hw
    | cons z zs =>
    have hzc : z ∈ c := by rw [hcc]; simp
    refine ⟨?_, ?_⟩
    · intro hr
      have := left_nil hlt hl hr
      rw [hcc] at this
      cases this
    · intro i hi
      obtain ⟨hic, o, ho, hdeps⟩ := left_ready hl hi
      have hic : i ∈ c := by
        rcases List.mem_append.1 hic with h | h
        · exact h
        · exfalso
          have hr := hx z hzc i h
          have := reach_listed hl.2.2.2 i o z ho hdeps hr
          have hz := (hl.2.2.1 z).1 (by simp [hzc])
          rw [hz.2] at this
          cases this
      clear hcc hzc
      obtain ⟨c1, c2, rfl⟩ := List.append_of_mem hic
      have hfront : DOps P cf ops ro (i :: (c1 ++ c2)) a S K := by
        by_cases hc1 : c1 = []
        · subst hc1; exact h
        have hcf : cf = cls ty := by
          obtain ⟨x, hx⟩ := List.exists_mem_of_ne_nil c1 hc1
          have hpr : ((befs ops.toList).getD i 0).testBit x = true ∨ (cf = cls ty ∧ pairOk ty ops (befs ops.toList) x i = true) := by
            rw [List.pairwise_append] at hp
            exact hp.2.2 x hx i (by simp)
          rcases hpr with hpr | hpr
          · have hxs := (hl.2.2.1 x).1 (by simp [hx])
            have := reach_listed hl.2.2.2 i o x ho hdeps hpr
            rw [hxs.2] at this
            cases this
          · exact hpr.1
        subst hcf
        refine DOps.front hk ho (hsel i o ho) c1 ?_ a S h
        intro x hx
        have hxs := (hl.2.2.1 x).1 (by simp [hx])
        obtain ⟨ox, hox⟩ : ∃ o, ops[x]? = some o := ⟨_, Array.getElem?_eq_getElem hxs.1⟩
        refine ⟨ox, hox, hsel x ox hox, ?_⟩
        have hpr : pairOk ty ops (befs ops.toList) x i = true := by
          rw [List.pairwise_append] at hp
          rcases hp.2.2 x hx i (by simp) with h | h
          · unfold pairOk; rw [h]; rfl
          · exact h.2
        unfold pairOk at hpr
        rw [Bool.or_eq_true] at hpr
        rcases hpr with hpr | hpr
        · have := reach_listed hl.2.2.2 i o x ho hdeps hpr
          rw [hxs.2] at this
          cases this
        · rw [hox, ho] at hpr
          exact hpr
      obtain ⟨o', ho', hstep⟩ := hfront ⟨F, w0, w, hw⟩
      rw [ho] at ho'
      cases ho'
      have hnext : ∀ a' S' w', DOps P cf ops ro (c1 ++ c2) a' S' K → Hs ro S' F w0 w' → wpAny P .any ops Q fuel (listed.setIfInBounds i true) a' w' := by
        intro a' S' w' h' hw'
        refine ih (listed.setIfInBounds i true) (c1 ++ c2) a' S' w' (by simp at hf ⊢; omega) ?_ (hp.sublist (List.Sublist.append (List.Sublist.refl _) (List.sublist_cons_self _ _))) ?_ h' hw'
        · have := left_next (c1 := c1) (c2 := c2 ++ ct) (by simpa using hl) ho hdeps
          simpa using this
        · intro j hj k hkc
          exact hx j (by simp at hj ⊢; rcases hj with h | h <;> simp [h]) k hkc
      unfold wpOp
      rw [ho]
      simp only
      split
      · rename_i hwant
        rw [if_pos hwant] at hstep
        left
        have conv : ∀ {n : Value → World → Prop}, opV P (execOp a.eval o) w n → (∀ v w', n v w' → wpAny P .any ops Q fuel (listed.setIfInBounds i true) (a.put o.dst v) w') → o.wp P a w (wpAny P .any ops Q fuel (listed.setIfInBounds i true)) Q := by
          intro n hn hi
          refine Oper.wp_mono ?_ (hn.wp (Q := Q))
          rintro a' w' ⟨v, rfl, hv⟩
          exact hi v w' hv
        match hcz : cf o.op with
        | 0 =>
          rw [hcz] at hstep
          obtain ⟨v, hv, h'⟩ := hstep
          refine conv (n := fun u w' => u = v ∧ w' = w) ?_ ?_
          · unfold opV; rw [hv w hw.2.ro]; exact ⟨rfl, rfl⟩
          · rintro u w' ⟨rfl, rfl⟩; exact hnext _ _ _ h' hw
        | 1 =>
          rw [hcz] at hstep
          obtain ⟨f, ob, hm, h'⟩ := hstep
          refine conv (n := fun u w' => u = f w.heap.size ∧ w' = { w with heap := w.heap.push ob }) ?_ ?_
          · unfold opV; rw [hm w]; exact ⟨rfl, rfl⟩
          · rintro u w' ⟨rfl, rfl⟩; exact hnext _ _ _ (h' _) ⟨hw.1, hw.2.push ob⟩
        | n + 2 =>
          rw [hcz] at hstep
          refine conv (hstep F w0 w hw) ?_
          rintro v w' ⟨S', h', hw'⟩
          exact hnext _ _ _ h' hw'
      · rename_i hwant
        rw [if_neg hwant] at hstep
        exact hnext _ _ _ hstep hw

/-! ### what is only read for a while -/
theorem Hs.lend {B S : List Asrt} {F : Asrt} {w0 w : World} (h : Hs ro (B ++ S) F w0 w) : ∃ hB, big B hB ∧ hdj ro hB ∧ Hs (hun ro hB) S F w0 w := by
  obtain ⟨sm, hh, hb, dr, hr, hl⟩ := h
  rw [List.append_assoc] at hb
  obtain ⟨h1, h2, b1, b2, d, l1, l2⟩ := big_app.1 hb
  exact ⟨h1, b1, hdj_le dr l1, sm, h2, b2, hdj_sym (hdj_un (hdj_sym (hdj_le dr l2)) (hdj_sym d)), hr.le l2, hl.un (hr.le l1)⟩

theorem Hs.unlend {B S : List Asrt} {F : Asrt} {w0 w : World} {hB : HP} (hb : big B hB) (hd : hdj ro hB) (h : Hs (hun ro hB) S F w0 w) : Hs ro (B ++ S) F w0 w := by
  obtain ⟨sm, hh, hbig, dr, hr, hl⟩ := h
  have dB : hdj hB hh := hdj_sym (hdj_le (hdj_sym dr) (hle_un_r hd))
  have dR : hdj ro hh := hdj_sym (hdj_le (hdj_sym dr) (hle_un_l _ _))
  refine ⟨sm, hun hB hh, ?_, hdj_un hd dR, (hl.le (hle_un_r hd)).un hr, hl.le (hle_un_l _ _)⟩
  rw [List.append_assoc]
  exact big_app.2 ⟨hB, hh, hb, hbig, dB, hle_un_l _ _, hle_un_r dB⟩

/-- the region, in the one order: first what may come in any order, over memory B that is only read, then the rest -/
theorem SW_draw {id : Nat} {cb ct : List Nat} {Q : Post} {a : Act} {B S : List Asrt} (hm : P.follows .mixedOrders = true) (hok : drawOk ty ops cb ct = true)
    (h : ∀ ro', hle ro ro' → big B ro' → DOps P (cls ty) ops ro' cb a S fun a' S' => Cl ro' (fun S'' => DOps P (fun _ => 2) ops ro ct a' (B ++ S'') fun a S => Cl ro (Q .normal a) S) S') : SW P ro (.region id ops true) Q a (B ++ S) := by
  unfold drawOk at hok
  simp only [Bool.and_eq_true, beq_iff_eq, decide_eq_true_eq, List.all_eq_true] at hok
  obtain ⟨⟨⟨⟨⟨h1, h2⟩, h3⟩, h4⟩, h5⟩, ⟨h6, h7⟩, h8⟩ := hok
  intro F w0 w hw
  refine wp_region_any hm ?_
  have hmem : ∀ i, i ∈ cb ++ ct ↔ i < ops.size := by
    intro i
    refine ⟨fun hi => h3.1 i hi, fun hi => ?_⟩
    have := h3.2 i (List.mem_range.2 hi)
    simpa using this
  have hsel : ∀ (j : Nat) (o : Oper), ops[j]? = some o → noSel o.op = true := fun j o ho => h4 o (by simpa using Array.mem_of_getElem? ho)
  have hlt : ∀ (j : Nat) (o : Oper), ops[j]? = some o → ∀ e ∈ o.after, Region.binds .any e = true → e.on < j := by
    intro j o ho e he hb
    have := h5 (o, j) (by
      rw [List.mem_zipIdx_iff_getElem?]
      simpa using ho) e (by simpa using he)
    simp only [Bool.or_eq_true, Bool.not_eq_true', decide_eq_true_eq] at this
    rcases this with h | h
    · rw [hb] at h; cases h
    · exact h
  obtain ⟨hB, hbig, hd, hs⟩ := hw.lend
  have hleft : Left ops (Array.replicate ops.size false) (cb ++ ct) := by
    refine ⟨by simp, h2, ?_, ?_⟩
    · intro i
      rw [hmem]
      constructor
      · intro hi; exact ⟨hi, by simp [hi]⟩
      · exact fun hi => hi.1
    · intro j o ho hl
      have hj : j < ops.size := (Array.getElem?_eq_some_iff.1 ho).1
      simp [hj] at hl
  refine draw_any (ty := ty) (K := fun a' S' => Cl (hun ro hB) (fun S'' => DOps P (fun _ => 2) ops ro ct a' (B ++ S'') fun a S => Cl ro (Q .normal a) S) S') (F := F) (w0 := w0) (ct := ct) (fun a X X' e k => Cl.ent e k) ?_ hsel hlt _ _ cb a S _ (by omega) hleft ((pairsOk_spec.1 h6).imp fun h => .inr ⟨rfl, h⟩) (fun i hi j hj => h8 i hi j hj)
    (h _ (hle_un_l _ _) (big_mono (hle_un_r hd) hbig)) ⟨hs.1, hs.2⟩
  intro fuel listed a' w' S' hf hl hK hw'
  obtain ⟨S'', hK, hw'⟩ := hK F w0 w' hw'
  refine draw_any (ty := ty) (K := fun a S => Cl ro (Q .normal a) S) (F := F) (w0 := w0) (ct := []) (fun a X X' e k => Cl.ent e k) ?_ hsel hlt fuel listed ct a' (B ++ S'') w' (by simpa using hf) (by simpa using hl) ((pairsOk_spec.1 h7).imp fun h => .inl h) (fun i hi j hj => by cases hj) hK (Hs.unlend hbig hd hw')
  intro fuel listed a w S hf hl q hs
  obtain ⟨S, q, hs⟩ := q F w0 w hs
  -- nothing is left
  have hr : Region.ready .any ops listed = [] := by
    cases hr : Region.ready .any ops listed with
    | nil => rfl
    | cons i l =>
      have := left_ready hl (i := i) (by rw [hr]; simp)
      cases this.1
  cases fuel with
  | zero => exact ⟨hr, S, q, hs⟩
  | succ fuel => exact ⟨fun _ => ⟨S, q, hs⟩, fun i hi => by rw [hr] at hi; cases hi⟩

end
end Go.Lb
