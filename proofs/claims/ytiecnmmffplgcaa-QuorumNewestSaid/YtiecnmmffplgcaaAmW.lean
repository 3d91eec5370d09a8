/- The abstract machine, twenty-third part: a region whose order is drawn. -/
import Derived.Test.YtiecnmmffplgcaaAmV
namespace Go.Am

def maskOf (acc : List Nat) (o : Oper) : Nat := o.after.toList.foldl (fun s e => bif Region.binds .any e then s ||| 2 ^ e.on ||| acc.getD e.on 0 else s) 0

def allAt (f : Nat → AOp → Bool) : Nat → List AOp → Bool
  | _, [] => true
  | i, x :: l => f i x && allAt f (i + 1) l

def ordGo (prev : List AOp) (acc : List Nat) : List AOp → Bool
  | [] => true
  | x :: l => x.o.after.toList.all (fun e => !Region.binds .any e || Nat.blt e.on acc.length) && allAt (fun j y => Nat.testBit (maskOf acc x.o) j || indep y x) 0 prev && ordGo (prev ++ [x]) (acc ++ [maskOf acc x.o]) l

theorem allAt_get {f : Nat → AOp → Bool} : ∀ (l : List AOp) (n : Nat), allAt f n l = true → ∀ j y, l[j]? = some y → f (n + j) y = true := by
  intro l
  induction l with
  | nil => intro n _ j y h; simp at h
  | cons x l ih =>
    intro n h j y hj
    simp only [allAt, Bool.and_eq_true] at h
    cases j with
    | zero => simp at hj; subst hj; exact h.1
    | succ j =>
      have := ih (n + 1) h.2 j y (by simpa using hj)
      rw [Nat.add_assoc, Nat.add_comm 1 j] at this; exact this

theorem maskOf_bit {acc : List Nat} {o : Oper} {j : Nat} (h : Nat.testBit (maskOf acc o) j = true) :
    ∃ e ∈ o.after.toList, Region.binds .any e = true ∧ (j = e.on ∨ Nat.testBit (acc.getD e.on 0) j = true) := by
  have gen : ∀ (l : List Edge) (s : Nat), Nat.testBit (l.foldl (fun s e => bif Region.binds .any e then s ||| 2 ^ e.on ||| acc.getD e.on 0 else s) s) j = true → Nat.testBit s j = true ∨ ∃ e ∈ l, Region.binds .any e = true ∧ (j = e.on ∨ Nat.testBit (acc.getD e.on 0) j = true) := by
    intro l
    induction l with
    | nil => intro s h; exact .inl h
    | cons e l ih =>
      intro s h
      rcases ih _ h with h | ⟨e', he, h'⟩
      · simp only at h
        cases hb : Region.binds .any e with
        | false => rw [hb] at h; exact .inl h
        | true =>
          rw [hb, cond_true, Nat.testBit_or, Nat.testBit_or, Bool.or_eq_true, Bool.or_eq_true] at h
          rcases h with (h | h) | h
          · exact .inl h
          · exact .inr ⟨e, by simp, hb, .inl (by rw [Nat.testBit_two_pow] at h; exact (of_decide_eq_true h).symm)⟩
          · exact .inr ⟨e, by simp, hb, .inr h⟩
      · exact .inr ⟨e', by simp [he], h'⟩
  rcases gen _ 0 h with h | h
  · simp at h
  · exact h

structure Good (ops : List AOp) (acc : List Nat) : Prop where
  len : acc.length = ops.length
  at_ : ∀ i x, ops[i]? = some x → (∀ e ∈ x.o.after.toList, Region.binds .any e = true → e.on < i) ∧
    (∀ j y, j < i → ops[j]? = some y → Nat.testBit (acc.getD i 0) j = true ∨ indep y x = true) ∧
    (∀ j, Nat.testBit (acc.getD i 0) j = true → ∃ e ∈ x.o.after.toList, Region.binds .any e = true ∧ e.on < i ∧ (j = e.on ∨ Nat.testBit (acc.getD e.on 0) j = true))

theorem ordGo_good : ∀ (l prev : List AOp) (acc : List Nat), Good prev acc → ordGo prev acc l = true → ∃ acc', Good (prev ++ l) acc' := by
  intro l
  induction l with
  | nil => intro prev acc G _; exact ⟨acc, by simpa using G⟩
  | cons x l ih =>
    intro prev acc G h
    simp only [ordGo, Bool.and_eq_true] at h
    obtain ⟨⟨h1, h2⟩, h3⟩ := h
    have he : ∀ e ∈ x.o.after.toList, Region.binds .any e = true → e.on < acc.length := fun e hm hb => by
      have := List.all_eq_true.1 h1 e hm
      rw [hb] at this
      simpa [Nat.blt_eq] using this
    suffices hg : Good (prev ++ [x]) (acc ++ [maskOf acc x.o]) by
      obtain ⟨acc', G'⟩ := ih (prev ++ [x]) (acc ++ [maskOf acc x.o]) hg h3
      exact ⟨acc', by simpa using G'⟩
    · have gd : ∀ i, i < acc.length → (acc ++ [maskOf acc x.o]).getD i 0 = acc.getD i 0 := fun i hi => by
        simp only [List.getD_eq_getElem?_getD, List.getElem?_append_left hi]
      refine ⟨by simp [G.len], fun i y hy => ?_⟩
      rcases Nat.lt_or_ge i prev.length with hi | hi
      · rw [List.getElem?_append_left hi] at hy
        obtain ⟨g1, g2, g3⟩ := G.at_ i y hy
        refine ⟨g1, fun j z hj hz => ?_, fun j hj => ?_⟩
        · rw [List.getElem?_append_left (Nat.lt_trans hj hi)] at hz
          rw [gd i (by rw [G.len]; exact hi)]
          exact g2 j z hj hz
        · rw [gd i (by rw [G.len]; exact hi)] at hj
          obtain ⟨e, e1, e2, e3, e4⟩ := g3 j hj
          exact ⟨e, e1, e2, e3, by rw [gd _ (by rw [G.len]; exact Nat.lt_trans e3 hi)]; exact e4⟩
      · obtain rfl : i = prev.length := by
          have := (List.getElem?_eq_some_iff.1 hy).1
          simp at this; omega
        simp at hy
        subst hy
        have gi : (acc ++ [maskOf acc x.o]).getD prev.length 0 = maskOf acc x.o := by
          simp [List.getD_eq_getElem?_getD, ← G.len]
        refine ⟨fun e hm hb => by rw [← G.len]; exact he e hm hb, fun j z hj hz => ?_, fun j hj => ?_⟩
        · rw [List.getElem?_append_left hj] at hz
          have := allAt_get prev 0 h2 j z hz
          rw [Nat.zero_add, Bool.or_eq_true] at this
          rw [gi]; exact this
        · rw [gi] at hj
          obtain ⟨e, e1, e2, e3⟩ := maskOf_bit hj
          exact ⟨e, e1, e2, by rw [← G.len]; exact he e e1 e2, by rw [gd _ (he e e1 e2)]; exact e3⟩

theorem good_of (ops : List AOp) (h : ordGo [] [] ops = true) : ∃ acc, Good ops acc := by
  obtain ⟨acc, G⟩ := ordGo_good ops [] [] ⟨rfl, fun i x hx => by simp at hx⟩ h
  exact ⟨acc, by simpa using G⟩

section
variable {P : Program} {T : Tbl} {fns : Fns} {R : Type} {x0 : Ctx} {w0 : World} {N : Nat}

/-- What is not yet taken. -/
def leftOf (n : Nat) (listed : Array Bool) : List Nat := (List.range n).filter fun i => !listed.getD i true

theorem Good.before {ops : List AOp} {acc : List Nat} (G : Good ops acc) {listed : Array Bool} (hcl : ∀ i x, ops[i]? = some x → listed.getD i true = true → ∀ e ∈ x.o.after.toList, Region.binds .any e = true → listed.getD e.on false = true) (hsz : listed.size = ops.length) :
    ∀ (i : Nat) (x : AOp), ops[i]? = some x → (∀ e ∈ x.o.after.toList, Region.binds .any e = true → listed.getD e.on false = true) → ∀ j, Nat.testBit (acc.getD i 0) j = true → listed.getD j false = true := by
  intro i
  induction i using Nat.strongRecOn with
  | _ i ih =>
    intro x hx hr j hj
    obtain ⟨e, e1, e2, e3, e4⟩ := (G.at_ i x hx).2.2 j hj
    rcases e4 with rfl | e4
    · exact hr e e1 e2
    · have hl := hr e e1 e2
      have hi := (List.getElem?_eq_some_iff.1 hx).1
      obtain ⟨y, hy⟩ : ∃ y, ops[e.on]? = some y := ⟨ops[e.on]'(by omega), List.getElem?_eq_getElem _⟩
      refine ih e.on e3 y hy (hcl e.on y hy ?_) j e4
      have : e.on < listed.size := by omega
      simp only [Array.getD, this, dite_true] at hl ⊢
      exact hl

theorem any_sound (hT : TblOk P T) (hfns : FnsOk P fns) (ops : List AOp) {acc : List Nat} (G : Good ops acc) (hN : ∀ ao ∈ ops, dstOk N ao = true) (hgd : ∀ ao ∈ ops, guardOk ops ao = true) {Q : Exit → Act → World → Prop} {k : St → Option R} {z : R}
    (hQ : ∀ st' a' w', k st' = some z → Conc x0 w0 N st' a' w' → Q .normal a' w') :
    ∀ (fuel : Nat) (listed : Array Bool) (st : St) (a : Act) (w : World), listed.size = ops.length → (leftOf ops.length listed).length ≤ fuel →
      (∀ i x, ops[i]? = some x → listed.getD i true = true → ∀ e ∈ x.o.after.toList, Region.binds .any e = true → listed.getD e.on false = true) →
      stepsK R T fns ((leftOf ops.length listed).filterMap (ops[·]?)) st k = some z → Conc x0 w0 N st a w → wpAny P .any (ops.map (·.o)).toArray Q fuel listed a w := by
  have left_ready : ∀ (listed : Array Bool), listed.size = ops.length → Region.ready .any (ops.map (·.o)).toArray listed = [] → leftOf ops.length listed = [] := by
    intro listed hsz hr
    cases hl : leftOf ops.length listed with
    | nil => rfl
    | cons i l =>
      exfalso
      have hm : i ∈ leftOf ops.length listed := by rw [hl]; simp
      unfold leftOf at hm
      rw [List.mem_filter, List.mem_range] at hm
      obtain ⟨y, hy⟩ : ∃ y, ops[i]? = some y := ⟨ops[i]'hm.1, List.getElem?_eq_getElem _⟩
      have : i ∈ Region.ready .any (ops.map (·.o)).toArray listed := by
        rw [mem_ready]
        refine ⟨by simpa using hm.2, y.o, by simp [hy], fun e he hb => ?_⟩
        have hlt := (G.at_ i y hy).1 e (by simpa using he) hb
        cases hx : listed.getD e.on false with
        | true => rfl
        | false =>
          exfalso
          have hon : e.on ∈ leftOf ops.length listed := by
            unfold leftOf
            rw [List.mem_filter, List.mem_range]
            have h1 : e.on < listed.size := by omega
            refine ⟨by omega, ?_⟩
            simp only [Array.getD, h1, dite_true] at hx ⊢
            rw [hx]; rfl
          have hp : (leftOf ops.length listed).Pairwise (· < ·) := List.Pairwise.filter _ List.pairwise_lt_range
          rw [hl] at hp hon
          rw [List.pairwise_cons] at hp
          rcases List.mem_cons.1 hon with h | h
          · omega
          · have := hp.1 _ h; omega
      rw [hr] at this; cases this
  intro fuel
  induction fuel with
  | zero =>
    intro listed st a w hsz hf hcl hk C
    have hn : leftOf ops.length listed = [] := List.length_eq_zero_iff.1 (by omega)
    rw [hn] at hk
    refine ⟨?_, hQ st a w hk C⟩
    cases hr : Region.ready .any (ops.map (·.o)).toArray listed with
    | nil => rfl
    | cons i l =>
      exfalso
      have hm : i ∈ Region.ready .any (ops.map (·.o)).toArray listed := by rw [hr]; simp
      rw [mem_ready] at hm
      obtain ⟨h1, o, h2, _⟩ := hm
      have : i ∈ leftOf ops.length listed := by
        unfold leftOf
        rw [List.mem_filter, List.mem_range]
        have := (Array.getElem?_eq_some_iff.1 h2).1
        exact ⟨by simpa using this, by simp [h1]⟩
      rw [hn] at this; cases this
  | succ fuel ih =>
    intro listed st a w hsz hf hcl hk C
    refine ⟨fun hr => ?_, fun i hi => ?_⟩
    · rw [left_ready listed hsz hr] at hk
      exact hQ st a w hk C
    · rw [mem_ready] at hi
      obtain ⟨h1, o, h2, h3⟩ := hi
      obtain ⟨y, hy, rfl⟩ : ∃ y, ops[i]? = some y ∧ y.o = o := by
        have : (ops.map (·.o))[i]? = some o := by simpa using h2
        rw [List.getElem?_map] at this
        cases hy : ops[i]? with
        | none => rw [hy] at this; cases this
        | some y => rw [hy] at this; exact ⟨y, rfl, by simpa using this⟩
      have hlt := (List.getElem?_eq_some_iff.1 hy).1
      have hm : i ∈ leftOf ops.length listed := by
        unfold leftOf
        rw [List.mem_filter, List.mem_range]
        exact ⟨hlt, by simp [h1]⟩
      obtain ⟨p, q, hpq⟩ := List.append_of_mem hm
      have hp : (leftOf ops.length listed).Pairwise (· < ·) := List.Pairwise.filter _ List.pairwise_lt_range
      rw [hpq, List.pairwise_append] at hp
      obtain ⟨_, hp2, hp3⟩ := hp
      rw [List.pairwise_cons] at hp2
      have hleft : leftOf ops.length (listed.setIfInBounds i true) = p ++ q := by
        have e1 : leftOf ops.length (listed.setIfInBounds i true) = (leftOf ops.length listed).filter fun j => decide (j ≠ i) := by
          unfold leftOf
          rw [List.filter_filter]
          refine List.filter_congr fun j hj => ?_
          by_cases hji : j = i
          · subst hji
            simp [Array.getD, hsz, hlt]
          · simp only [ne_eq, hji, not_false_eq_true, decide_true, Bool.true_and]
            rw [getD_set_ne true (fun e => hji e.symm)]
        rw [e1, hpq, List.filter_append, List.filter_cons]
        simp only [ne_eq, not_true_eq_false, decide_false, Bool.false_eq_true, if_false]
        rw [List.filter_eq_self.2 fun j hj => ?_, List.filter_eq_self.2 fun j hj => ?_]
        · exact decide_eq_true (by have := hp2.1 j hj; omega)
        · exact decide_eq_true (by have := hp3 j hj i (by simp); omega)
      have hstep : stepsK R T fns (p.filterMap (ops[·]?) ++ y :: q.filterMap (ops[·]?)) st k = some z := by
        rw [hpq, List.filterMap_append, List.filterMap_cons] at hk
        simpa [hy] using hk
      have hlisted : ∀ e ∈ y.o.after.toList, Region.binds .any e = true → listed.getD e.on false = true := fun e he hb => h3 e (by simpa using he) hb
      obtain ⟨st', h4, h5⟩ := steps_pull hfns (p.filterMap (ops[·]?)) (q.filterMap (ops[·]?)) st k z (fun x' hx' => by
        rw [List.mem_filterMap] at hx'
        obtain ⟨j, hj, hxj⟩ := hx'
        have hji : j < i := hp3 j hj i (by simp)
        rcases (G.at_ i y hy).2.1 j x' hji hxj with h | h
        · exfalso
          have hl := G.before hcl hsz i y hy hlisted j h
          have hjm : j ∈ leftOf ops.length listed := by rw [hpq]; simp [hj]
          unfold leftOf at hjm
          rw [List.mem_filter, List.mem_range] at hjm
          have h1 : j < listed.size := by omega
          have := hjm.2
          simp only [Array.getD, h1, dite_true] at this hl
          rw [hl] at this; cases this
        · exact h) hstep
      have hmem := List.mem_of_getElem? hy
      refine lead_sound hT hfns hy (hN y hmem) (hgd y hmem) h4 C fun a' w' C' => ?_
      refine ih _ st' a' w' (by simpa using hsz) ?_ ?_ ?_ C'
      · rw [hleft]; rw [hpq] at hf; simp at hf ⊢; omega
      · intro j x hj hl e he hb
        by_cases hji : j = i
        · subst hji
          rw [hj] at hy; cases hy
          exact getD_set_true (hlisted e he hb)
        · rw [getD_set_ne true (fun e => hji e.symm)] at hl
          exact getD_set_true (hcl j x hj hl e he hb)
      · rw [hleft, List.filterMap_append]; exact h5

/-- A region, its order drawn or not. -/
def regionOk (N : Nat) (draw : Bool) (ops : List AOp) : Bool := ops.all (dstOk N) && ops.all (guardOk ops) && (!draw || ordGo [] [] ops)

theorem region_sound (hT : TblOk P T) (hfns : FnsOk P fns) (hm : P.follows .mixedOrders = true) {ops : List AOp} {draw : Bool} (hok : regionOk N draw ops = true) {id : Nat} {Q : Exit → Act → World → Prop} {k : St → Option R} {z : R} {st : St} {a : Act} {w : World}
    (hk : stepsK R T fns ops st k = some z) (C : Conc x0 w0 N st a w) (hQ : ∀ st' a' w', k st' = some z → Conc x0 w0 N st' a' w' → Q .normal a' w') : (Code.region id (ops.map (·.o)).toArray draw).wp P Q a w := by
  unfold regionOk at hok
  simp only [Bool.and_eq_true] at hok
  obtain ⟨⟨h1, h2⟩, h3⟩ := hok
  have hN : ∀ ao ∈ ops, dstOk N ao = true := List.all_eq_true.1 h1
  have hgd : ∀ ao ∈ ops, guardOk ops ao = true := List.all_eq_true.1 h2
  cases draw with
  | false =>
    refine wp_region ?_
    have := steps_sound (x0 := x0) (w0 := w0) hT hfns ops hN hgd ops 0 (by simp) st a w hk C hQ
    rw [List.range_eq_range']
    simpa using this
  | true =>
    simp only [Bool.not_true, Bool.false_or] at h3
    obtain ⟨acc, G⟩ := good_of ops h3
    refine wp_region_any hm ?_
    obtain ⟨⟨x, hσ, Gx, hs⟩, hsz, hdf⟩ := C
    have hleft : leftOf ops.length (Array.replicate ops.length false) = List.range ops.length := by
      unfold leftOf
      refine List.filter_eq_self.2 fun j hj => ?_
      rw [List.mem_range] at hj
      simp [Array.getD, hj]
    have hall : (List.range ops.length).filterMap (ops[·]?) = ops := by
      have : ∀ (l : List AOp) (n : Nat), ops.drop n = l → (List.range' n l.length).filterMap (ops[·]?) = l := by
        intro l
        induction l with
        | nil => intro n _; rfl
        | cons x l ih =>
          intro n hn
          have hx : ops[n]? = some x := by
            have := congrArg (·[0]?) hn
            simpa using this
          rw [List.length_cons, List.range'_succ, List.filterMap_cons, hx]
          simp only
          rw [ih (n + 1) (by rw [← List.drop_drop, hn]; rfl)]
      have h0 := this ops 0 (by simp)
      rw [List.range_eq_range']
      exact h0
    have hszA : (ops.map (·.o)).toArray.size = ops.length := by simp
    rw [hszA]
    refine any_sound (x0 := x0) (w0 := w0) (N := N) (k := k) (z := z) hT hfns ops G hN hgd hQ ops.length _ st a _ (by simp) (by rw [hleft]; simp) ?_ (by rw [hleft, hall]; exact hk) ?_
    · intro i x hx hl
      have := (List.getElem?_eq_some_iff.1 hx).1
      simp [Array.getD, this] at hl
    · exact ⟨⟨x, hσ, Gx.trans (Goes.drew Gx.mem Gx.h _), hs⟩, hsz, hdf⟩
end
end Go.Am
