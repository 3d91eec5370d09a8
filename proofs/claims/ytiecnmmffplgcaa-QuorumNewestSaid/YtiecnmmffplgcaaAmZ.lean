/- The abstract machine, twenty-sixth part: functions. -/
import Derived.Test.YtiecnmmffplgcaaAmY
namespace Go.Am

section
variable {P : Program} {T : Tbl} {fns : Fns} {R : Type} {fuel : Nat}

theorem pad_obj (x : Ctx) (n r : Nat) : ({ x with σ := x.σ ++ List.replicate n .free } : Ctx).obj r = x.obj r := by
  unfold Ctx.obj
  simp only [List.getD_eq_getElem?_getD]
  rcases Nat.lt_or_ge r x.σ.length with h | h
  · rw [List.getElem?_append_left h]
  · rw [List.getElem?_append_right h, List.getElem?_eq_none (l := x.σ) h, List.getElem?_replicate]
    split <;> rfl

theorem pad_goes {x : Ctx} {w : World} (M : Mem x) (hh : x.h = fun b => w.heap[b]?) (n : Nat) : Goes x w { x with σ := x.σ ++ List.replicate n .free } w := by
  have hk : ∀ r, Keeps x { x with σ := x.σ ++ List.replicate n .free } r := fun r => Keeps.same (pad_obj x n r) rfl fun _ _ _ _ h => h
  refine { Goes.refl M hh with mem := ?_, keeps := hk, own := fun b hb => ?_ }
  · refine M.objects rfl rfl rfl (fun r => ?_) fun r h => by rw [pad_obj] at h; exact h
    rw [pad_obj]
    exact ObjRel.congr (x := x) (x' := { x with σ := x.σ ++ List.replicate n .free }) (fun _ _ h => ⟨h, rfl⟩) hk rfl (fun _ _ _ => rfl) (M.objs r)
  · obtain ⟨r, a, l, m, e⟩ := hb
    rw [pad_obj] at l
    exact .inl ⟨r, a, l, m, e⟩

def resOf (tmps : Array Value) : ResultVar → Sem Value
  | .tmp t => pure (tmps.getD t undef)
  | .cell a t => do loadVar t (← asAddr (tmps.getD a undef))

theorem load_res (hT : TblOk P T) {get : Nat → Option AObj} {x : Ctx} {w : World} (M : Mem x) (hh : x.h = fun b => w.heap[b]?) (hobj : ∀ r ob, get r = some ob → x.σ[r]? = some ob) {t : TypeId} {v : AVal} {u0 : Value} (hv : v.V x u0) {k : AVal → Ups → Option R} {z : R}
    (hk : actLoad T get t v k = some z) : ∃ u val, k u [] = some z ∧ u.V x val ∧ (do loadVar t (← asAddr u0) : Sem Value).run P w = .ok val w := by
  have hat0 : ∀ {b : Nat} {o : Obj}, x.h b = some o → w.heap[b]? = some o := fun {b o} h => by have := hh ▸ h; exact this
  unfold actLoad at hk
  split at hk
  case h_2 => cases hk
  rename_i d hd
  split at hk
  · rename_i r g p
    cases hg : get r with
    | none => unfold rootK at hk; rw [hg] at hk; cases hk
    | some ob =>
      obtain ⟨b, hb, hbf, blk, off0, c, e, h1, h2, ⟨pre, cs, post, h3, h4, h5⟩, s, of, hat, hu⟩ := ptr_at M (obj_of_get (hobj r ob hg)) hg hk hv
      obtain ⟨u, hget, hk2⟩ := getK_inv p b _ z hb
      obtain ⟨hd2, hk3⟩ := cond_some hk2
      obtain ⟨hsz, hag⟩ := isAs_size hd2
      obtain ⟨of', hat', pre', mid, post', rfl, hp', hm⟩ := getK_sound p b u cs h5 hget
      rw [hat] at hat'; cases hat'
      have hfl : u.flat = true := flat_getK p b u hbf hget
      refine ⟨u, valueOf u.agg mid, hk3, V_valueOf hm fun ha => agg_one hm ha hfl, ?_⟩
      have hl := run_loadVar_at hT hd (hat0 h2) (o := off0 + of) (mid := mid) (fun j v hv => by
        have := all2_drop_get (c := c) (pre := pre ++ pre') (mid := mid) (post := post' ++ post) (by rw [h3]; simp) j hv
        simpa [h4, hp'] using this) (by rw [hsz, AVal.C.length _ _ hm]) (fun hf => agg_one hm (hag ▸ hf) hfl)
      simp only [asAddr, hu, Sem.run_bind, Sem.run_pure, Result.andThen_ok, hl, hag]
  · rename_i own τ y
    obtain ⟨hd2, hk3⟩ := cond_some hk
    obtain ⟨hsz, hag⟩ := isAs_size hd2
    obtain ⟨b, of, ds, hu, h1, ⟨c, e, fr, h2, h3⟩, h4⟩ := (show (AVal.ref own τ y).C x [u0] from hv)
    simp only [List.cons.injEq, and_true] at hu
    have hm : (AVal.dat own τ y).C x ds := h4
    refine ⟨_, valueOf (AVal.dat own τ y).agg ds, hk3, V_valueOf hm fun ha => agg_one hm ha rfl, ?_⟩
    have hl := run_loadVar_at hT hd (hat0 h2) (o := of) (mid := ds) h3 (by rw [hsz, AVal.C.length _ _ hm]) (fun hf => agg_one hm (hag ▸ hf) rfl)
    simp only [asAddr, hu, Sem.run_bind, Sem.run_pure, Result.andThen_ok, hl, hag]
  · cases hk

theorem resK_ok (hT : TblOk P T) {x : Ctx} {st : St} {tmps : Array Value} {w : World} (M : Mem x) (hh : x.h = fun b => w.heap[b]?) (hσ : x.σ = st.σ) (hs : ∀ i v, st.slots i = some v → ∃ u, tmps[i]? = some u ∧ v.V x u) :
    ∀ (rs : List ResultVar) (k : AVal → Option R) (z : R), resK R T st rs k = some z → ∃ vs us, k vs = some z ∧ vs.C x us ∧ (rs.mapM (resOf tmps)).run P w = .ok us w ∧ us.length = rs.length ∧ (rs = [] → vs = .nil) ∧
      (∀ r rs', rs = r :: rs' → ∃ v vs', vs = .cons v vs' ∧ (rs' = [] → vs' = .nil) ∧ (∀ r2 rs2, rs' = r2 :: rs2 → ∃ v2 vs2, vs' = .cons v2 vs2)) := by
  intro rs
  induction rs with
  | nil => intro k z h; exact ⟨.nil, [], h, rfl, by simp, rfl, fun _ => rfl, fun _ _ e => by cases e⟩
  | cons r rs ih =>
    intro k z h
    -- one result, the others behind it
    have rest : ∀ {v : AVal} {u : Value} (hv : v.V x u) (hrun : (resOf tmps r).run P w = .ok u w) (h : resK R T st rs (fun vs => k (.cons v vs)) = some z), ∃ vs us, k vs = some z ∧ vs.C x us ∧ ((r :: rs).mapM (resOf tmps)).run P w = .ok us w ∧ us.length = (r :: rs).length ∧ (r :: rs = [] → vs = .nil) ∧
      (∀ r' rs', r :: rs = r' :: rs' → ∃ v vs', vs = .cons v vs' ∧ (rs' = [] → vs' = .nil) ∧ (∀ r2 rs2, rs' = r2 :: rs2 → ∃ v2 vs2, vs' = .cons v2 vs2)) := by
      intro v u hv hrun h
      obtain ⟨vs, us, h3, h4, h5, h6, h7, h8⟩ := ih _ z h
      refine ⟨.cons v vs, u :: us, h3, ⟨u, us, rfl, hv, h4⟩, ?_, by simp [h6], (fun e => by cases e), fun r' rs' e => ?_⟩
      · simp only [List.mapM_cons, hrun, Sem.run_bind, Sem.run_pure, Result.andThen_ok, h5]
      · cases e
        exact ⟨v, vs, rfl, h7, fun r2 rs2 e2 => by obtain ⟨v2, vs2, e3, _⟩ := h8 r2 rs2 e2; exact ⟨v2, vs2, e3⟩⟩
    cases r with
    | tmp t =>
      unfold resK at h
      split at h
      · rename_i v hv
        obtain ⟨u, h1, h2⟩ := hs t v hv
        refine rest h2 ?_ h
        have : tmps.getD t undef = u := by simp [Array.getD_eq_getD_getElem?, h1]
        simp only [resOf, this, Sem.run_pure]
      · cases h
    | cell t ty =>
      unfold resK at h
      split at h
      · rename_i v hv
        obtain ⟨u, h1, h2⟩ := hs t v hv
        obtain ⟨v', val, h3, h4, h5⟩ := load_res (P := P) (w := w) hT M hh (fun r ob h => by rw [hσ]; exact h) h2 h
        refine rest h4 ?_ h3
        have : tmps.getD t undef = u := by simp [Array.getD_eq_getD_getElem?, h1]
        simp only [resOf, this]; exact h5
      · cases h

theorem retK_ok {x0 : Ctx} {w0 : World} {N : Nat} {fn : Func} {rs : List ResultVar} (hT : TblOk P T) (hr : fn.results = rs.toArray) {ks : List (Option (Nat × Nat))} {st : St} {k : AVal → List AObj → Option R} {z : R} (h : retK R T (x0.σ.map AObj.arr0) rs ks st k = some z) {a : Act} {w : World} (C : Conc x0 w0 N st a w) :
    a.defers = [] ∧ ∃ v, (results fn a.tmps).run P w = .ok v w ∧ ∃ x' ret objs', k ret objs' = some z ∧ Goes x0 w0 x' w ∧ x'.σ = objs' ∧ ret.V x' v := by
  refine ⟨C.defers, ?_⟩
  unfold retK at h
  obtain ⟨hf, h⟩ := cond_some h
  obtain ⟨⟨x, hσ, G, hs⟩, hsz, hdf⟩ := C
  obtain ⟨vs, us, h1, h2, h3, h4, h5, h6⟩ := resK_ok (P := P) (w := w) hT G.mem G.h hσ hs rs _ z h
  have hres : (results fn a.tmps).run P w = .ok (if h : us.toArray.size = 1 then us.toArray[0] else .tuple us.toArray) w := by
    unfold results
    rw [hr]
    have hm : (rs.toArray.mapM (resOf a.tmps)).run P w = .ok us.toArray w := by
      rw [Array.mapM_eq_mapM_toList, Sem.run_map, show rs.toArray.toList = rs from rfl, h3]; rfl
    rw [Sem.run_bind]
    show Result.andThen ((rs.toArray.mapM (resOf a.tmps)).run P w) _ = _
    rw [hm]; rfl
  refine ⟨_, hres, x.ren ks, ?_⟩
  rw [← hσ] at h1 hf
  have GR := ren_goes G hf
  have up : ∀ {v : AVal} {u : Value}, v.V x u → (v.told (renName ks x.σ)).V (x.ren ks) u := fun h => told_V (x := x) (y := x.ren ks) (fun _ _ h => ⟨h, rfl⟩) ren_names h
  have hobjs : (x.ren ks).σ = renObjs ks x.σ := rfl
  cases rs with
  | nil =>
    obtain rfl := h5 rfl
    obtain rfl : us = [] := by simpa using h4
    exact ⟨_, _, h1, GR, hobjs, up (v := .tup .nil) (u := .tuple #[]) ⟨[], rfl, h2⟩⟩
  | cons r rs =>
    obtain ⟨v, vs', rfl, h7, h8⟩ := h6 r rs rfl
    cases rs with
    | nil =>
      obtain rfl := h7 rfl
      obtain ⟨u, us', rfl, hu, hn⟩ := h2
      obtain rfl : us' = [] := hn
      exact ⟨_, _, h1, GR, hobjs, up hu⟩
    | cons r2 rs2 =>
      obtain ⟨v2, vs2, rfl⟩ := h8 r2 rs2 rfl
      have hne : ¬ us.toArray.size = 1 := by simp only [List.size_toArray]; simp at h4; omega
      rw [dif_neg hne]
      exact ⟨_, _, h1, GR, hobjs, up (v := .tup (.cons v (.cons v2 vs2))) (u := .tuple us.toArray) ⟨us, rfl, h2⟩⟩

theorem countTo_get : ∀ (args : List AVal) (i0 i : Nat) (v : AVal), slotsAt (countTo i0 args.length) args i = some v → ∃ j, i = i0 + j ∧ args[j]? = some v := by
  intro args
  induction args with
  | nil => intro i0 i v h; cases h
  | cons a args ih =>
    intro i0 i v h
    simp only [List.length_cons, countTo, slotsAt] at h
    cases hb : Nat.beq i i0 with
    | true => rw [hb] at h; cases h; exact ⟨0, Nat.eq_of_beq_eq_true hb, rfl⟩
    | false => rw [hb] at h; obtain ⟨j, h1, h2⟩ := ih _ _ _ h; exact ⟨j + 1, by omega, by simpa using h2⟩

theorem fun_sound (hT : TblOk P T) (hfns : FnsOk P fns) (hm : P.follows .mixedOrders = true) {f : FuncId} {fn : Func} {fd : FunDef} (hf : P.funcs[f]? = some fn) (hb : fn.body = some fd.code.erase) (hr : fn.results = fd.results.toArray) (hn : fn.ntmps = fd.ntmps)
    (hok : fd.code.ok fd.ntmps = true) (hsm : fd.code.same) {subs : Subs R} (hsubs : SubsOk P fd.g0 fd.ntmps subs) (hh : fd.code.holes = fd.code.fills subs) {args : List AVal} {objs : List AObj} (hg : objs.map AObj.arr0 = fd.g0) (hlen : Nat.ble args.length fd.ntmps = true) {k : AVal → List AObj → Option R} {z : R} (h : runF R T fns fuel subs fd args objs k = some z)
    {x : Ctx} {w : World} {vals : Array Value} (M : Mem x) (hhp : x.h = fun b => w.heap[b]?) (hσ : x.σ = objs) (ha : All2 (fun v u => v.V x u) args vals.toList) :
    Calls P f vals w fun e w' => ∃ v x' ret objs', k ret objs' = some z ∧ e = .returned v ∧ Goes x w x' w' ∧ x'.σ = objs' ∧ ret.V x' v := by
  subst hσ
  unfold runF at h
  rw [← hg] at hsubs h
  refine calls_of_wp hf hb ?_
  have hl : vals.size = args.length := by have := ha.1; simpa using this.symm
  have hle : args.length ≤ fd.ntmps := Nat.le_of_ble_eq_true hlen
  have C : Conc x w fd.ntmps ⟨slotsAt (countTo 0 args.length) args, x.σ ++ List.replicate fd.room .free⟩ { tmps := vals ++ Array.replicate (fn.ntmps - vals.size) undef, defers := [] } w := by
    refine ⟨⟨_, rfl, pad_goes M hhp fd.room, fun i v hv => ?_⟩, ?_, rfl⟩
    · obtain ⟨j, h1, h2⟩ := countTo_get _ _ _ _ hv
      rw [Nat.zero_add] at h1; subst h1
      obtain ⟨u, h3, h4⟩ := ha.get h2
      refine ⟨u, ?_, h4.mono (pad_goes M hhp fd.room).S (pad_goes M hhp fd.room).keeps⟩
      have hlt : i < vals.size := by rw [hl]; exact (List.getElem?_eq_some_iff.1 h2).1
      show (vals ++ Array.replicate (fn.ntmps - vals.size) undef)[i]? = some u
      rw [Array.getElem?_append_left hlt]
      simpa using h3
    · show (vals ++ Array.replicate (fn.ntmps - vals.size) undef).size = fd.ntmps
      simp [hn]; omega
  refine run_sound (x0 := x) (w0 := w) (N := fd.ntmps) hT hfns hm hsubs fd.code hok hsm hh _ _ _ _ _ h C fun e st' a' w' h' C' => ?_
  cases e with
  | normal =>
    obtain ⟨h1, v, h2, x', ret, objs', h3, h4, h5, h6⟩ := retK_ok (P := P) hT hr h' C'
    exact ⟨h1, v, h2, v, x', ret, objs', h3, rfl, h4, h5, h6⟩
  | ret ks =>
    obtain ⟨h1, v, h2, x', ret, objs', h3, h4, h5, h6⟩ := retK_ok (P := P) hT hr h' C'
    exact ⟨h1, v, h2, v, x', ret, objs', h3, rfl, h4, h5, h6⟩
  | exit id => cases h'

/-- A function told as plain data: what goes in, what it does, what comes out. -/
def funAs {Y Z : Type} (inp : List AVal → List AObj → Option Y) (plain : Y → Option Z) (encV : Z → AVal) (encO : Z → List AObj) : Fun := fun _ args objs k => match inp args objs with
  | some y => match plain y with
    | some z => k (encV z) (encO z)
    | none => none
  | none => none

/-- A function, from what the machine's run of it comes to, told as plain data. -/
theorem funOk_of {Y Z : Type} (hT : TblOk P T) (hfns : FnsOk P fns) (hm : P.follows .mixedOrders = true) {f : FuncId} {fn : Func} {fd : FunDef} (hf : P.funcs[f]? = some fn) (hbody : (fn.name == "runtime.NumGoroutine") = false) (hb : fn.body = some fd.code.erase) (hr : fn.results = fd.results.toArray) (hn : fn.ntmps = fd.ntmps)
    (hok : fd.code.ok fd.ntmps = true) (hsm : fd.code.same) {subs : Subs Z} (hsubs : SubsOk P fd.g0 fd.ntmps subs) (hh : fd.code.holes = fd.code.fills subs)
    (inp : List AVal → List AObj → Option Y) (plain : Y → Option Z) (dec : AVal → List AObj → Option Z) (encV : Z → AVal) (encO : Z → List AObj)
    (hdec : ∀ v os z, dec v os = some z → v = encV z ∧ os = encO z)
    (hrun : ∀ args objs y, inp args objs = some y → (Nat.ble args.length fd.ntmps = true ∧ objs.map AObj.arr0 = fd.g0) ∧ runF Z T fns fuel subs fd args objs dec = plain y) :
    FunOk P f (funAs inp plain encV encO) := by
  refine ⟨⟨fn, hf, by rw [hb]; rfl, hbody⟩, fun R args objs k z h => ?_⟩
  unfold funAs at h ⊢
  cases hi : inp args objs with
  | none => simp only [hi] at h; cases h
  | some y =>
    simp only [hi] at h ⊢
    cases hp : plain y with
    | none => simp only [hp] at h; cases h
    | some z' =>
      simp only [hp] at h ⊢
      obtain ⟨h1, h2⟩ := hrun args objs y hi
      refine ⟨_, _, h, fun _ _ => rfl, fun x w vals M hhp hσ ha => ?_⟩
      refine (fun_sound hT hfns hm hf hb hr hn hok hsm hsubs hh h1.2 h1.1 (h2.trans hp) M hhp hσ ha).mono fun e w' hq => ?_
      obtain ⟨v, x', ret, objs', h3, rfl, h4, h5, h6⟩ := hq
      obtain ⟨rfl, rfl⟩ := hdec _ _ _ h3
      exact ⟨v, x', rfl, h4, h5, h6⟩
end
end Go.Am
