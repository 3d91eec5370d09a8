/- The abstract machine: a region with a step of which there is more than one outcome. -/
import Derived.Test.YtiecnmmffplgcaaAmXA
import Derived.Test.YtiecnmmffplgcaaAmW
namespace Go.Am
section
variable {P : Program} {T : Tbl} {fns : Fns} {R : Type} {x0 : Ctx} {w0 : World} {N : Nat}

noncomputable def wildStep (R : Type) (T : Tbl) (ao : AOp) (st : St) (k : St → Option R) : Option R :=
  wildK T (st.get ao.an.touch) ao.o.op (opval ao.reads st.slots) fun v ups => k (st.upd ao.o.dst v ups)

noncomputable def wildsK (R : Type) (T : Tbl) (fns : Fns) (pre : List AOp) (o : AOp) (post : List AOp) (st : St) (k : St → Option R) : Option R :=
  stepsK R T fns pre st fun st => wildStep R T o st fun st => stepsK R T fns post st k

def wildOk (N : Nat) (pre : List AOp) (o : AOp) (post : List AOp) : Bool :=
  (pre ++ o :: post).all (dstOk N) && (pre ++ o :: post).all (guardOk (pre ++ o :: post)) && o.o.guard.isNone

theorem lead_wild (hT : TblOk P T) {ops : List AOp} {ao : AOp} {i : Nat} (hi : ops[i]? = some ao) (hN : dstOk N ao = true) (hgd : ao.o.guard = none) {st : St} {k : St → Option R} {z : R} (h : wildStep R T ao st k = some z) {a : Act} {w : World} (C : Conc x0 w0 N st a w)
    {K : Act → World → Prop} {Q : Exit → Act → World → Prop} (hK : ∀ st' a' w', k st' = some z → Conc x0 w0 N st' a' w' → K a' w') : wpOp P (ops.map (·.o)).toArray Q i K a w := by
  have hop : (ops.map (·.o)).toArray[i]? = some ao.o := by simp [hi]
  unfold wpOp
  rw [hop]
  have hw : Region.wanted ao.o (yielded (ops.map (·.o)).toArray a.tmps) = true := by unfold Region.wanted; rw [hgd]
  simp only [hw, if_true]
  obtain ⟨⟨x, hσ, G, hs⟩, hsz, hdf⟩ := C
  have hM : Meets P T (opval ao.reads st.slots) (st.get ao.an.touch) a w x := {
    tbl := hT
    mem := G.mem
    h := G.h
    val := fun o v ho => by
      cases o with
      | tmp t =>
        simp only [opval] at ho
        obtain ⟨_, ho⟩ := cond_some ho
        obtain ⟨u, h1, h2⟩ := hs t v ho
        have : a.eval (.tmp t) = u := by simp [Act.eval, Array.getD_eq_getD_getElem?, h1]
        rw [this]; exact h2
      | const c => exact constVal_V ho
      | func f => cases ho; exact ⟨[], rfl, rfl⟩
      | global g => cases ho
    obj := fun r ob ho => by
      unfold St.get at ho
      rw [hσ]; exact (cond_some ho).2 }
  refine .inl (wildK_ok hM ao.o h K Q fun v ups u w' x' hk G' hσ' hv => hK _ _ _ hk ?_)
  exact conc_upd hN hσ G hs hsz hdf G' hσ' hv

theorem steps_part (hT : TblOk P T) (hfns : FnsOk P fns) (ops : List AOp) (hN : ∀ ao ∈ ops, dstOk N ao = true) (hgd : ∀ ao ∈ ops, guardOk ops ao = true) {Q : Exit → Act → World → Prop} {k : St → Option R} {z : R} {rest : List Nat} :
    ∀ (l : List AOp) (i : Nat), (∀ j ao, l[j]? = some ao → ops[i + j]? = some ao) → ∀ (st : St) (a : Act) (w : World), stepsK R T fns l st k = some z → Conc x0 w0 N st a w → (∀ st' a' w', k st' = some z → Conc x0 w0 N st' a' w' → wpOps P (ops.map (·.o)).toArray Q rest a' w') →
      wpOps P (ops.map (·.o)).toArray Q (List.range' i l.length ++ rest) a w := by
  intro l
  induction l with
  | nil => intro i _ st a w h C hQ; exact hQ st a w h C
  | cons ao l ih =>
    intro i hd st a w h C hQ
    have hi : ops[i]? = some ao := hd 0 ao rfl
    have hm := List.mem_of_getElem? hi
    obtain ⟨st', h1, h2, _⟩ := stepK_inv hfns (show stepK R T fns ao st _ = some z from h)
    rw [List.length_cons, List.range'_succ, List.cons_append, wpOps_cons]
    refine lead_sound hT hfns hi (hN ao hm) (hgd ao hm) h2 C fun a' w' C' => ?_
    refine ih (i + 1) (fun j bo hj => ?_) st' a' w' h1 C' hQ
    have := hd (j + 1) bo (by simpa using hj)
    rw [← this]; congr 1; omega

theorem wild_sound (hT : TblOk P T) (hfns : FnsOk P fns) {pre post : List AOp} {o : AOp} (hok : wildOk N pre o post = true) {id : Nat} {Q : Exit → Act → World → Prop} {k : St → Option R} {z : R} {st : St} {a : Act} {w : World}
    (hk : wildsK R T fns pre o post st k = some z) (C : Conc x0 w0 N st a w) (hQ : ∀ st' a' w', k st' = some z → Conc x0 w0 N st' a' w' → Q .normal a' w') : (Code.region id ((pre ++ o :: post).map (·.o)).toArray false).wp P Q a w := by
  unfold wildOk at hok
  simp only [Bool.and_eq_true] at hok
  obtain ⟨⟨h1, h2⟩, h3⟩ := hok
  have hN : ∀ ao ∈ pre ++ o :: post, dstOk N ao = true := List.all_eq_true.1 h1
  have hgd : ∀ ao ∈ pre ++ o :: post, guardOk (pre ++ o :: post) ao = true := List.all_eq_true.1 h2
  refine wp_region ?_
  have hsz : ((pre ++ o :: post).map (·.o)).toArray.size = pre.length + (1 + post.length) := by simp; omega
  rw [hsz, List.range_eq_range', ← List.range'_append_1, Nat.zero_add, Nat.add_comm 1, List.range'_succ]
  have mid : (pre ++ o :: post)[pre.length]? = some o := by simp
  refine steps_part hT hfns _ hN hgd pre 0 (fun j ao hj => ?_) st a w hk C fun st1 a1 w1 hk1 C1 => ?_
  · rw [Nat.zero_add, List.getElem?_append_left (List.getElem?_eq_some_iff.1 hj).1]; exact hj
  · rw [wpOps_cons]
    refine lead_wild hT mid (hN o (by simp)) (Option.isNone_iff_eq_none.1 h3) hk1 C1 fun st2 a2 w2 hk2 C2 => ?_
    have := steps_part (x0 := x0) (w0 := w0) (Q := Q) (rest := []) hT hfns _ hN hgd post (pre.length + 1) (fun j ao hj => ?_) st2 a2 w2 hk2 C2 fun st3 a3 w3 hk3 C3 => hQ st3 a3 w3 hk3 C3
    · rw [List.append_nil] at this; exact this
    · rw [List.getElem?_append_right (by omega), show pre.length + 1 + j - pre.length = j + 1 by omega]; exact hj
end
end Go.Am
