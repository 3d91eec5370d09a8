/- The abstract machine, twenty-second part: regions. -/
import Derived.Test.YtiecnmmffplgcaaAmU
namespace Go.Am

/-- A state, and what the model has: since the call began in x0, w0. -/
structure Conc (x0 : Ctx) (w0 : World) (N : Nat) (st : St) (a : Act) (w : World) : Prop where
  state : ∃ x, x.σ = st.σ ∧ Goes x0 w0 x w ∧ ∀ i v, st.slots i = some v → ∃ u, a.tmps[i]? = some u ∧ v.V x u
  size : a.tmps.size = N
  defers : a.defers = []

def guardOk (ops : List AOp) (ao : AOp) : Bool :=
  match ao.o.guard, ao.guard with
  | none, none => true
  | some (j, w), some (g, w') => w == w' && (match ops[j]? with | some o => (match o.o.dst with | some d => Nat.beq d g | none => false) | none => false)
  | _, _ => false

def dstOk (N : Nat) (ao : AOp) : Bool := match ao.o.dst with | some d => Nat.blt d N | none => true

section
variable {P : Program} {T : Tbl} {fns : Fns} {R : Type} {x0 : Ctx} {w0 : World} {N : Nat}

theorem put_tmps {a : Act} {d : Option Nat} {v : Value} : (a.put d v).tmps.size = a.tmps.size ∧ (a.put d v).defers = a.defers := by
  cases d <;> simp [Act.put]

theorem put_at {a : Act} {d : Option Nat} {v : Value} {i : Nat} (hd : ∀ e, d = some e → e < a.tmps.size) : (a.put d v).tmps[i]? = if d = some i then some v else a.tmps[i]? := by
  cases d with
  | none => simp [Act.put]
  | some d =>
    simp only [Act.put, Option.some.injEq, Array.setIfInBounds]
    have := hd d rfl
    rw [dif_pos this, Array.getElem?_set]

theorem dst_lt {ao : AOp} {n : Nat} (h : dstOk n ao = true) : ∀ d, ao.o.dst = some d → d < n := by
  intro d hd
  unfold dstOk at h
  rw [hd] at h
  exact of_decide_eq_true (by simpa [Nat.blt_eq] using h)

theorem conc_upd {st : St} {a : Act} {w w' : World} {x x' : Ctx} {ao : AOp} {v : AVal} {u : Value} {ups : Ups} (hN : dstOk N ao = true) (hσ : x.σ = st.σ) (G : Goes x0 w0 x w) (hs : ∀ i v, st.slots i = some v → ∃ u, a.tmps[i]? = some u ∧ v.V x u)
    (hsz : a.tmps.size = N) (hdf : a.defers = []) (G' : Goes x w x' w') (hσ' : x'.σ = applyUps x.σ ups) (hv : v.V x' u) : Conc x0 w0 N (st.upd ao.o.dst v ups) (a.put ao.o.dst u) w' := by
  refine ⟨⟨x', by rw [hσ', hσ]; rfl, G.trans G', fun i av h => ?_⟩, by rw [put_tmps.1, hsz], by rw [put_tmps.2, hdf]⟩
  rw [put_at (fun e he => by rw [hsz]; exact dst_lt hN e he)]
  by_cases hd : ao.o.dst = some i
  · rw [if_pos hd]
    have h : put st.slots ao.o.dst (some v) i = some av := h
    rw [hd] at h
    simp only [put, Nat.beq_refl, cond_true, Option.some.injEq] at h
    subst h
    exact ⟨u, rfl, hv⟩
  · rw [if_neg hd]
    have h : put st.slots ao.o.dst (some v) i = some av := h
    rw [put_other hd] at h
    obtain ⟨u', h1, h2⟩ := hs i av h
    exact ⟨u', h1, h2.mono G'.S G'.keeps⟩

theorem conc_skip {st : St} {a : Act} {w : World} {ao : AOp} (hN : dstOk N ao = true) (C : Conc x0 w0 N st a w) : Conc x0 w0 N (st.skip ao.o.dst) (a.put ao.o.dst undef) w := by
  obtain ⟨⟨x, hσ, G, hs⟩, hsz, hdf⟩ := C
  refine ⟨⟨x, hσ, G, fun i av h => ?_⟩, by rw [put_tmps.1, hsz], by rw [put_tmps.2, hdf]⟩
  rw [put_at (fun e he => by rw [hsz]; exact dst_lt hN e he)]
  have h : put st.slots ao.o.dst (some (.tup .nil)) i = some av := h
  by_cases hd : ao.o.dst = some i
  · rw [if_pos hd]
    rw [hd] at h
    simp only [put, Nat.beq_refl, cond_true, Option.some.injEq] at h
    subst h
    exact ⟨undef, rfl, ⟨[], rfl, rfl⟩⟩
  · rw [if_neg hd]
    rw [put_other hd] at h
    exact hs i av h

/-- One operation of a region. -/
theorem lead_sound (hT : TblOk P T) (hfns : FnsOk P fns) {ops : List AOp} {ao : AOp} {i : Nat} (hi : ops[i]? = some ao) (hN : dstOk N ao = true) (hgd : guardOk ops ao = true) {st st' : St} (h : Leads T fns ao st st') {a : Act} {w : World} (C : Conc x0 w0 N st a w)
    {K : Act → World → Prop} {Q : Exit → Act → World → Prop} (hK : ∀ a' w', Conc x0 w0 N st' a' w' → K a' w') : wpOp P (ops.map (·.o)).toArray Q i K a w := by
  obtain ⟨s1, e1, _, hc⟩ := stepK_inv hfns (h St some)
  cases e1
  have hop : (ops.map (·.o)).toArray[i]? = some ao.o := by simp [hi]
  -- whether it is done, in both
  have hw : ∀ b, gv ao st = some b → Region.wanted ao.o (yielded (ops.map (·.o)).toArray a.tmps) = b := by
    intro b hb
    unfold gv at hb
    unfold guardOk at hgd
    unfold Region.wanted
    split at hgd
    · rename_i h1 h2
      rw [h2] at hb; cases hb
      rw [h1]
    · rename_i j want g want' h1 h2
      rw [h2] at hb
      rw [h1]
      rw [Bool.and_eq_true] at hgd
      obtain ⟨hw, hgd⟩ := hgd
      obtain rfl : want = want' := by simpa using hw
      simp only at hb ⊢
      split at hb
      · rename_i p bb hs
        cases hb
        split at hgd
        · rename_i oj hoj
          split at hgd
          · rename_i d hd
            obtain rfl := Nat.eq_of_beq_eq_true hgd
            obtain ⟨x, _, _, hsl⟩ := C.state
            obtain ⟨u, h3, h4⟩ := hsl d _ hs
            have hu := V_bool.1 h4
            subst hu
            have : yielded (ops.map (·.o)).toArray a.tmps j = some bb := by
              unfold yielded
              have e1 : (ops.map (·.o)).toArray[j]? = some oj.o := by simp [hoj]
              rw [e1]
              simp only [Option.bind_some, hd, h3]
            rw [this]
            cases bb <;> cases want <;> rfl
          · cases hgd
        · cases hgd
      · rename_i hs
        cases hb
        split at hgd
        · rename_i oj hoj
          split at hgd
          · rename_i d hd
            obtain rfl := Nat.eq_of_beq_eq_true hgd
            obtain ⟨x, _, _, hsl⟩ := C.state
            obtain ⟨u, h3, us, h4, h5⟩ := hsl d _ hs
            obtain rfl : us = [] := h5
            simp only [List.cons.injEq, and_true] at h4
            subst h4
            have : yielded (ops.map (·.o)).toArray a.tmps j = none := by
              unfold yielded
              have e1 : (ops.map (·.o)).toArray[j]? = some oj.o := by simp [hoj]
              rw [e1]
              simp only [Option.bind_some, hd, h3]
            rw [this]
            rfl
          · cases hgd
        · cases hgd
      · cases hb
    · cases hgd
  unfold wpOp
  rw [hop]
  simp only
  rcases hc with ⟨hg, rfl⟩ | ⟨hg, v, ups, hcomes, hups, rfl⟩
  · rw [hw false hg]
    simp only [Bool.false_eq_true, if_false]
    exact hK _ _ (conc_skip hN C)
  · rw [hw true hg]
    simp only [if_true]
    obtain ⟨⟨x, hσ, G, hs⟩, hsz, hdf⟩ := C
    have hM : Meets P T (opval ao.reads st.slots) (st.get ao.an.touch) a w x := {
      tbl := hT
      mem := G.mem
      h := G.h
      val := fun o v ho => by
        cases o with
        | tmp t =>
          simp only [opval] at ho
          obtain ⟨_, ho⟩ := cond_some ho
          obtain ⟨u, h1, h2⟩ := hs t v ho
          have : a.eval (.tmp t) = u := by simp [Act.eval, Array.getD_eq_getD_getElem?, h1]
          rw [this]; exact h2
        | const c => exact constVal_V ho
        | func f => cases ho; exact ⟨[], rfl, rfl⟩
        | global g => cases ho
      obj := fun r ob ho => by
        unfold St.get at ho
        rw [hσ]; exact (cond_some ho).2 }
    obtain ⟨u, ups', hz, hact⟩ := actK_ok hfns hM ao.o ao.an (k := fun v u => some (v, u)) (z := (v, ups)) (hcomes _ _)
    cases hz
    refine .inl (hact K Q fun u w' x' G' hσ' hv => hK _ _ ?_)
    exact conc_upd hN hσ G hs hsz hdf G' hσ' hv

/-- The operations in the text's order. -/
theorem steps_sound (hT : TblOk P T) (hfns : FnsOk P fns) (ops : List AOp) (hN : ∀ ao ∈ ops, dstOk N ao = true) (hgd : ∀ ao ∈ ops, guardOk ops ao = true) {Q : Exit → Act → World → Prop} {k : St → Option R} {z : R} :
    ∀ (l : List AOp) (i : Nat), ops.drop i = l → ∀ (st : St) (a : Act) (w : World), stepsK R T fns l st k = some z → Conc x0 w0 N st a w → (∀ st' a' w', k st' = some z → Conc x0 w0 N st' a' w' → Q .normal a' w') →
      wpOps P (ops.map (·.o)).toArray Q (List.range' i l.length) a w := by
  intro l
  induction l with
  | nil => intro i _ st a w h C hQ; exact hQ st a w h C
  | cons ao l ih =>
    intro i hd st a w h C hQ
    have hi : ops[i]? = some ao := by
      have := congrArg (·[0]?) hd
      simpa using this
    have hm := List.mem_of_getElem? hi
    obtain ⟨st', h1, h2, _⟩ := stepK_inv hfns (show stepK R T fns ao st _ = some z from h)
    rw [List.length_cons, List.range'_succ, wpOps_cons]
    refine lead_sound hT hfns hi (hN ao hm) (hgd ao hm) h2 C fun a' w' C' => ?_
    refine ih (i + 1) ?_ st' a' w' h1 C' hQ
    rw [← List.drop_drop, hd]; rfl
end
end Go.Am
