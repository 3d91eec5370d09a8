/- The abstract machine, eighteenth part: that a call does what the machine says. -/
import Derived.Test.YtiecnmmffplgcaaAmQ
namespace Go.Am

/-- The values of a chain. -/
def AVal.list : AVal → Option (List AVal)
  | .nil => some []
  | .cons a b => match b.list with | some l => some (a :: l) | none => none
  | _ => none

/-- What a function gets: its first arguments, those of the call, what it has caught. -/
def AVal.given (caps : AVal) (args : List AVal) : Option (List AVal) := match caps with
  | .tup w => match w.list with | some l => some (l ++ args) | none => none
  | c => match c.list with | some l => some (args ++ l) | none => none

section
variable {P : Program} {T : Tbl} {ρ : Operand → Option AVal} {get : Nat → Option AObj} {a : Act} {w : World} {x : Ctx} {R : Type} {loc bor : List Nat}

theorem list_V : ∀ {caps : AVal} {l : List AVal} {vs : List Value}, caps.list = some l → caps.C x vs → All2 (fun v u => v.V x u) l vs := by
  intro caps
  induction caps with
  | nil => intro l vs h hc; cases h; have : vs = [] := hc; subst this; exact .nil
  | cons a b iha ihb =>
    intro l vs h hc
    unfold AVal.list at h
    split at h
    · rename_i l' hl
      cases h
      obtain ⟨u, us, rfl, h1, h2⟩ := hc
      exact .cons h1 (ihb hl h2)
    · cases h
  | _ => intro l vs h; cases h

theorem borrow_agg : ∀ (t : Ty) (v : AVal) (d : t.den) (bs : List Nat), borrowTo get t v = some (d, bs) → t.agg = v.agg := by
  intro t v d bs h
  have hdat : ∀ (q : Bool) (t t' : Ty) (d' : t'.den) (d : t.den), (if h : t' = t then some (h ▸ d', ([] : List Nat)) else none) = some (d, bs) → t.agg = (AVal.dat q t' d').agg := by
    intro q t t' d' d h
    split at h
    · rename_i ht; subst ht; rfl
    · cases h
  cases t <;> cases v <;> first
    | (exact hdat _ _ _ _ _ (by simpa only [borrowTo] using h))
    | rfl
    | (simp only [borrowTo] at h; cases h)

theorem borrow_V (M : Mem x) (hobj : ∀ r ob, get r = some ob → x.σ[r]? = some ob) {t : Ty} {v : AVal} {d : t.den} {bs : List Nat} {u : Value} (h : borrowTo get t v = some (d, bs)) (hb : ∀ r ∈ bs, r ∈ bor) (hv : v.V x u) :
    (AVal.dat false t d).V (x.loc loc bor) u :=
  V_of_C (v := v) (v' := .dat false t d) (borrow_agg t v d bs h) (fun cs hc => borrow_C M hobj t v d bs cs h hb hc) hv

theorem lend_V (M : Mem x) (hobj : ∀ r ob, get r = some ob → x.σ[r]? = some ob) {f : Nat → Nat → Option (Nat × Nat)} (N : Names x (x.loc loc bor) f) : ∀ (ts : List (Option Ty)) (vs args : List AVal) (bs : List Nat) (us : List Value), lendK get ts vs = some (args, bs) → (∀ r ∈ bs, r ∈ bor) →
    All2 (fun v u => v.V x u) vs us → All2 (fun v u => v.V (x.loc loc bor) u) (args.map (AVal.refs f)) us := by
  have weakV : ∀ (v : AVal) (u : Value), v.V x u → (v.weak.refs f).V (x.loc loc bor) u := fun v u h =>
    refs_V loc_S N (V_of_C (weak_agg v) (weak_C v) h)
  intro ts
  induction ts with
  | nil =>
    intro vs
    induction vs with
    | nil => intro args bs us h _ hA; simp only [lendK, Option.some.injEq, Prod.mk.injEq] at h; obtain ⟨rfl, rfl⟩ := h; rw [hA.nil_inv]; exact .nil
    | cons v vs ih =>
      intro args bs us h hb hA
      obtain ⟨u, us', rfl, h1, h2⟩ := hA.cons_inv
      unfold lendK at h
      split at h
      · rename_i vs' bs' he; cases h; exact .cons (weakV v u h1) (ih _ _ us' he hb h2)
      · cases h
  | cons t ts ih =>
    intro vs args bs us h hb hA
    cases vs with
    | nil => cases t <;> cases h
    | cons v vs =>
      obtain ⟨u, us', rfl, h1, h2⟩ := hA.cons_inv
      cases t with
      | none =>
        unfold lendK at h
        split at h
        · rename_i vs' bs' he; cases h; exact .cons (weakV v u h1) (ih vs _ _ us' he hb h2)
        · cases h
      | some t =>
        unfold lendK at h
        split at h
        · rename_i d b vs' bs' h3 h4
          cases h
          exact .cons (borrow_V M hobj h3 (fun r hr => hb r (by simp [hr])) h1) (ih vs _ _ us' h4 (fun r hr => hb r (by simp [hr])) h2)
        · cases h

theorem getAll_obj (hobj : ∀ r ob, get r = some ob → x.σ[r]? = some ob) {l : List Nat} {os : List AObj} (h : getAll get l = some os) : os = l.map x.obj := by
  have A := getAll_get h
  apply List.ext_getElem?
  intro i
  rw [List.getElem?_map]
  cases hi : l[i]? with
  | none =>
    have : os[i]? = none := List.getElem?_eq_none (by rw [← A.1]; exact List.getElem?_eq_none_iff.1 hi)
    rw [this]; rfl
  | some r =>
    obtain ⟨o, h1, h2⟩ := A.get hi
    rw [h1, Option.map_some, obj_of_get (hobj r o h2)]

theorem actCall_ok (H : Meets P T ρ get a w x) {o : Oper} {fo : Operand} {argos : Array Operand} {ats : Array TypeId} (ho : o.op = .call { callee := .value fo, args := argos, argTypes := ats }) {f : FuncId} {caps : AVal} {args all : List AVal} {F : Fun} (hF : FunOk P f F)
    (hf : ρ fo = some (.fn f caps)) (hcaps : caps.given args = some all) (hargs : argos.toList.mapM ρ = some args) (an : Ann) {k : AVal → Ups → Option R} {z : R} (hk : actCall get an F all k = some z) :
    ∃ u ups, k u ups = some z ∧ ActOk P o a w x u ups := by
  unfold actCall at hk
  split at hk
  case h_2 => cases hk
  rename_i objs args1 bor hobjs hlend
  obtain ⟨hfit, hk⟩ := cond_some hk
  unfold callFits at hfit
  rw [Bool.and_eq_true, Bool.and_eq_true, Bool.and_eq_true] at hfit
  obtain ⟨⟨⟨hnd, hlive⟩, hfree⟩, hbor⟩ := hfit
  have hnd := nodupB_iff hnd
  have hobjs' := getAll_obj H.obj hobjs
  have hliveL : ∀ r ∈ an.loc, (x.obj r).live = true := fun r hr => by
    rw [hobjs', List.all_map] at hlive
    exact List.all_eq_true.1 hlive r hr
  have hborL : ∀ r ∈ bor, r ∉ an.loc ∧ (x.obj r).live = true := fun r hr => by
    have := List.all_eq_true.1 hbor r hr
    rw [Bool.and_eq_true] at this
    refine ⟨(fun h => by rw [memB_iff.2 h] at this; cases this.1), ?_⟩
    have h2 := this.2
    split at h2
    · rename_i ob hob; rw [obj_of_get (H.obj r ob hob)]; exact h2
    · cases h2
  have hfreeL : ∀ j, j < an.fresh → x.σ[an.base + j]? = some .free := fun j hj => by
    have := List.all_eq_true.1 hfree j (List.mem_range.2 hj)
    split at this
    · rename_i hg; exact H.obj _ _ hg
    · cases this
  have hgens : objs.map genOf = an.loc.map fun r => genOf (x.obj r) := by rw [hobjs', List.map_map]; rfl
  rw [hgens] at hk
  obtain ⟨ret, objs', hk2, _, hcall⟩ := hF.run _ _ _ _ _ hk
  obtain ⟨hleft, hk3⟩ := cond_some hk2
  unfold leftFits at hleft
  rw [Bool.and_eq_true, Bool.and_eq_true] at hleft
  obtain ⟨⟨hlen, hkind⟩, hkept⟩ := hleft
  -- the arguments' values
  obtain ⟨vs0, e0, hcapV⟩ := (show (AVal.fn f caps).C x [a.eval fo] from H.val _ _ hf)
  simp only [List.cons.injEq, and_true] at e0
  have hargV : All2 (fun v u => v.V x u) args (argos.toList.map a.eval) := by
    have : ∀ (os : List Operand) (vs : List AVal), os.mapM ρ = some vs → All2 (fun v u => v.V x u) vs (os.map a.eval) := by
      intro os
      induction os with
      | nil => intro vs h; simp at h; subst h; exact .nil
      | cons o os ih =>
        intro vs h
        rw [List.mapM_cons] at h
        simp only [bind, Option.bind_eq_some_iff, pure, Option.some.injEq] at h
        obtain ⟨v, hv, vs', h1, rfl⟩ := h
        exact .cons (H.val _ _ hv) (ih _ h1)
    exact this _ _ hargs
  obtain ⟨ALL, hall, hrun⟩ : ∃ ALL : List Value, All2 (fun v u => v.V x u) all ALL ∧ (execOp a.eval o).run P w = .ok (.enter f ALL.toArray) w := by
    obtain ⟨fn, hfn, hbody, hname⟩ := hF.body
    have hb : fn.body.isNone = false := by cases hbb : fn.body with | none => rw [hbb] at hbody; cases hbody | some c => rfl
    have run : ∀ us vs : List Value, a.eval fo = .func (.func f) us.toArray vs.toArray → (execOp a.eval o).run P w = .ok (.enter f (us ++ argos.toList.map a.eval ++ vs).toArray) w := by
      intro us vs e0
      simp only [execOp, ho, resolve, Deferred.ofValue, e0, Sem.run_bind, Sem.run_pure, Result.andThen_ok, invoke, callFunc, run_program, hfn, hname, hb, Bool.false_eq_true, if_false]
      simp
    cases htup : caps.isTup with
    | false =>
      rw [htup] at e0
      have hc : ∃ l, caps.list = some l ∧ args ++ l = all := by
        unfold AVal.given at hcaps
        cases caps <;> first
          | (cases htup; done)
          | (simp only at hcaps; split at hcaps
             · rename_i l hl; cases hcaps; exact ⟨l, hl, rfl⟩
             · cases hcaps)
      obtain ⟨l, hl, rfl⟩ := hc
      exact ⟨_, hargV.append (list_V hl hcapV), by simpa using run [] vs0 (by rw [e0]; rfl)⟩
    | true =>
      rw [htup] at e0
      cases caps <;> try (cases htup; done)
      rename_i wv
      obtain ⟨us, rfl, hus⟩ := hcapV
      unfold AVal.given at hcaps
      simp only at hcaps
      split at hcaps
      · rename_i l hl
        cases hcaps
        exact ⟨_, (list_V hl hus).append hargV, by simpa using run us [] (by rw [e0]; rfl)⟩
      · cases hcaps
  have hallL := lend_V (loc := an.loc) (bor := bor) H.mem H.obj (loc_names (x := x) (loc := an.loc) (bor := bor)) an.lend all args1 bor _ hlend (fun r hr => hr) hall
  have hC := hcall (x.loc an.loc bor) w ALL.toArray (loc_mem H.mem hnd fun r hr => (hborL r hr).1) H.h (by
    show an.loc.map _ = _
    rw [hobjs', List.map_map]; rfl) (by simpa using hallL)
  refine ⟨_, _, hk3, fun next Q hnext => ?_⟩
  unfold Oper.wp
  rw [hrun, Oper.upon_enter]
  refine hC.mono fun e w' h => ?_
  obtain ⟨v, y', rfl, G, hσ, hret⟩ := h
  have hyo : ∀ i, y'.obj i = objs'.getD i .free := fun i => by unfold Ctx.obj; rw [hσ]
  have hlen' := Nat.eq_of_beq_eq_true hlen
  have F' : CallFits x y' an.loc bor an.base an.fresh := {
    nodup := hnd
    live := hliveL
    free := hfreeL
    lent := hborL
    len := by rw [hσ]; exact hlen'
    kind := fun i r hi => by
      have h1 : objs[i]? = some (x.obj r) := by rw [hobjs', List.getElem?_map, hi]; rfl
      have hil : i < objs'.length := by have := (List.getElem?_eq_some_iff.1 hi).1; omega
      have h2 : objs'[i]? = some (y'.obj i) := by rw [hyo, List.getD_eq_getElem?_getD, List.getElem?_eq_getElem hil]; rfl
      have h3 : (objs.zip objs')[i]? = some (x.obj r, y'.obj i) := by rw [List.getElem?_zip_eq_some]; exact ⟨h1, h2⟩
      exact List.all_eq_true.1 hkind _ (List.mem_of_getElem? h3)
    kept := by
      rcases Bool.or_eq_true_iff.1 hkept with h | h
      · exact .inl (List.isEmpty_iff.1 h)
      · rw [Bool.and_eq_true] at h
        refine .inr fun i => ?_
        rw [hyo, List.getD_eq_getElem?_getD]
        cases hi : objs'[i]? with
        | none => rfl
        | some ob => exact List.all_eq_true.1 h.2 ob (List.mem_of_getElem? hi) }
  have hretk : bor = [] ∨ ret.kept = true := by
    rcases Bool.or_eq_true_iff.1 hkept with h | h
    · exact .inl (List.isEmpty_iff.1 h)
    · rw [Bool.and_eq_true] at h; exact .inr h.1
  refine hnext v w' (x.back y' an.loc bor an.base an.fresh) (call_goes H.mem H.h G F') ?_ (V_of_C (refs_agg _ ret) (fun cs hc => back_C G F' hretk hc) hret)
  show applyUps x.σ _ = applyUps x.σ _
  congr 2
  apply List.map_congr_left
  intro i _
  rw [hyo]
end
end Go.Am
