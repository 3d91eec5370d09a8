/- The abstract machine, twenty-fourth part: a state told anew: what is not needed is let go, objects have other names. -/
import Derived.Test.YtiecnmmffplgcaaAmW
namespace Go.Am

/-- Plain data are anyone's. -/
def AVal.firm : AVal → AVal
  | .dat p t x => bif p then .dat true t x else bif t.plain then .dat true t x else .dat false t x
  | .pair a b => .pair a.firm b.firm
  | .one a => .one a.firm
  | .fn i c => .fn i c.firm
  | .iface t v => .iface t v.firm
  | .tup v => .tup v.firm
  | .cons a b => .cons a.firm b.firm
  | v => v

theorem firm_dat {p : Bool} {t : Ty} {d : t.den} : (AVal.dat p t d).firm = .dat p t d ∨ (t.plain = true ∧ (AVal.dat p t d).firm = .dat true t d) := by
  unfold AVal.firm
  cases p with
  | true => exact .inl rfl
  | false =>
    cases h : t.plain with
    | true => exact .inr ⟨rfl, rfl⟩
    | false => exact .inl rfl

theorem firm_agg (v : AVal) : v.firm.agg = v.agg := by
  cases v with
  | dat p t d => rcases firm_dat (p := p) (d := d) with h | ⟨_, h⟩ <;> rw [h] <;> rfl
  | _ => rfl
theorem firm_sh : ∀ v : AVal, v.firm.sh = v.sh := by
  intro v
  induction v with
  | dat p t d => rcases firm_dat (p := p) (d := d) with h | ⟨_, h⟩ <;> rw [h] <;> rfl
  | _ => simp_all [AVal.firm, AVal.sh]
theorem firm_flat : ∀ v : AVal, v.firm.flat = v.flat := by
  intro v
  induction v with
  | dat p t d => rcases firm_dat (p := p) (d := d) with h | ⟨_, h⟩ <;> rw [h] <;> rfl
  | _ => simp_all [AVal.firm, AVal.flat]

theorem firm_C {x : Ctx} : ∀ (v : AVal) (cs : List Value), v.C x cs → v.firm.C x cs := by
  intro v
  induction v with
  | dat p t d =>
    intro cs h
    rcases firm_dat (p := p) (d := d) with e | ⟨hp, e⟩
    · rw [e]; exact h
    · rw [e]; exact Ty.Rel.ofPlain t d cs hp h
  | pair a b iha ihb => rintro cs ⟨c1, c2, e, h1, h2⟩; exact ⟨c1, c2, e, iha _ h1, ihb _ h2⟩
  | one a ih => exact fun cs h => ih cs h
  | fn i caps ih => rintro cs ⟨vs, e, h⟩; exact ⟨vs, by rw [e]; congr 2; cases caps <;> first | rfl | (rename_i p t _; simp only [AVal.firm, AVal.isTup]; cases p <;> cases t.plain <;> rfl), ih _ h⟩
  | iface t v ih =>
    rintro cs ⟨u, e, h⟩; refine ⟨u, e, ?_⟩
    rw [firm_agg]
    by_cases hv : v.agg = true
    · rw [if_pos hv] at h ⊢; obtain ⟨c, e, h⟩ := h; exact ⟨c, e, ih _ h⟩
    · rw [if_neg hv] at h ⊢; exact ih _ h
  | tup vs ih => rintro cs ⟨us, e, h⟩; exact ⟨us, e, ih _ h⟩
  | cons a b iha ihb =>
    rintro cs ⟨u, us, e, h, h'⟩; refine ⟨u, us, e, ?_, ihb _ h'⟩
    rw [firm_agg]
    by_cases hv : a.agg = true
    · rw [if_pos hv] at h ⊢; obtain ⟨c, e, h⟩ := h; exact ⟨c, e, iha _ h⟩
    · rw [if_neg hv] at h ⊢; exact iha _ h
  | _ => exact fun _ h => h

/-- A value told anew. -/
def AVal.told (f : Nat → Nat → Option (Nat × Nat)) (v : AVal) : AVal := (v.refs f).firm

theorem told_V {x y : Ctx} {f : Nat → Nat → Option (Nat × Nat)} (hs : ∀ p b, x.S p b → y.S p b ∧ y.h b = x.h b) (N : Names x y f) {v : AVal} {u : Value} (h : v.V x u) : (v.told f).V y u :=
  V_of_C (firm_agg _) (firm_C _) (refs_V hs N h)

def newObj (f : Nat → Nat → Option (Nat × Nat)) (g : Nat) : AObj → AObj
  | .box v => .box (v.told f)
  | .arr _ t xs => .arr g t xs
  | .iter v s l => .iter (v.told f) s l
  | o => o

def renFind : List (Option (Nat × Nat)) → Nat → Nat → Option (Nat × Nat)
  | [], _, _ => none
  | some (r', g') :: l, r, i => bif Nat.beq r r' then some (i, g') else renFind l r (i + 1)
  | none :: l, r, i => renFind l r (i + 1)

def renName (ks : List (Option (Nat × Nat))) (σ : List AObj) (r g : Nat) : Option (Nat × Nat) :=
  match renFind ks r 0 with
  | some (i, g') => bif Nat.beq g (genOf (σ.getD r .free)) then some (i, g') else none
  | none => none

def renObjs (ks : List (Option (Nat × Nat))) (σ : List AObj) : List AObj := ks.map fun
  | some (r, g) => newObj (renName ks σ) g (σ.getD r .free)
  | none => .free

def nodupK : List (Option (Nat × Nat)) → Bool
  | [] => true
  | some (r, _) :: l => l.all (fun | some (r', _) => !Nat.beq r r' | none => true) && nodupK l
  | none :: l => nodupK l

def AObj.arr0 : AObj → Bool
  | .arr g _ _ => Nat.beq g 0
  | _ => false
def AObj.isArr : AObj → Bool
  | .arr _ _ _ => true
  | _ => false

def renFits (g0 : List Bool) (σ : List AObj) (ks : List (Option (Nat × Nat))) : Bool :=
  nodupK ks && (List.range g0.length).all fun r => match ks[r]? with
    | some (some (r', g')) => (Nat.beq r' r && Nat.beq g' (genOf (σ.getD r .free))) || (g0.getD r false && (σ.getD r' .free).isArr && Nat.blt 0 g')
    | _ => false

theorem renFind_get : ∀ (ks : List (Option (Nat × Nat))) (r i0 i g : Nat), renFind ks r i0 = some (i, g) → ∃ j, i = i0 + j ∧ ks[j]? = some (some (r, g)) := by
  intro ks
  induction ks with
  | nil => intro r i0 i g h; cases h
  | cons k ks ih =>
    intro r i0 i g h
    cases k with
    | none => obtain ⟨j, h1, h2⟩ := ih r (i0 + 1) i g h; exact ⟨j + 1, by omega, by simpa using h2⟩
    | some q =>
      obtain ⟨r', g'⟩ := q
      simp only [renFind] at h
      cases hb : Nat.beq r r' with
      | true => rw [hb] at h; cases h; exact ⟨0, rfl, by simp [Nat.eq_of_beq_eq_true hb]⟩
      | false => rw [hb] at h; obtain ⟨j, h1, h2⟩ := ih r (i0 + 1) i g h; exact ⟨j + 1, by omega, by simpa using h2⟩

theorem nodupK_inj : ∀ (ks : List (Option (Nat × Nat))), nodupK ks = true → ∀ (i i' r g g' : Nat), ks[i]? = some (some (r, g)) → ks[i']? = some (some (r, g')) → i = i' := by
  intro ks
  induction ks with
  | nil => intro _ i i' r g g' h; simp at h
  | cons k ks ih =>
    intro hn i i' r g g' h h'
    have hk : nodupK ks = true := by
      cases k with
      | none => exact hn
      | some q => simp only [nodupK, Bool.and_eq_true] at hn; exact hn.2
    have no : ∀ (j r g0 g1 : Nat), k = some (r, g0) → ks[j]? = some (some (r, g1)) → False := by
      intro j r g0 g1 e hj
      subst e
      simp only [nodupK, Bool.and_eq_true] at hn
      have := List.all_eq_true.1 hn.1 _ (List.mem_of_getElem? hj)
      simp [Nat.beq_refl] at this
    cases i with
    | zero =>
      cases i' with
      | zero => rfl
      | succ i' => exact (no i' r g g' (by simpa using h) (by simpa using h')).elim
    | succ i =>
      cases i' with
      | zero => exact (no i r g' g (by simpa using h') (by simpa using h)).elim
      | succ i' => rw [ih hk i i' r g g' (by simpa using h) (by simpa using h')]

def Ctx.ren (x : Ctx) (ks : List (Option (Nat × Nat))) : Ctx where
  h := x.h
  S := x.S
  μ := fun i => match ks[i]? with | some (some (r, _)) => x.μ r | _ => none
  σ := renObjs ks x.σ

section
variable {x : Ctx} {ks : List (Option (Nat × Nat))}

theorem renName_some {σ : List AObj} {r g r' g' : Nat} (h : renName ks σ r g = some (r', g')) : ks[r']? = some (some (r, g')) ∧ g = genOf (σ.getD r .free) := by
  unfold renName at h
  split at h
  · rename_i i g1 hi
    obtain ⟨h1, h2⟩ := cond_some h
    cases h2
    obtain ⟨j, h3, h4⟩ := renFind_get _ _ _ _ _ hi
    rw [Nat.zero_add] at h3; subst h3
    exact ⟨h4, Nat.eq_of_beq_eq_true h1⟩
  · cases h

theorem ren_obj {i r g : Nat} (h : ks[i]? = some (some (r, g))) : (x.ren ks).obj i = newObj (renName ks x.σ) g (x.obj r) := by
  unfold Ctx.obj Ctx.ren renObjs
  rw [List.getD_eq_getElem?_getD, List.getElem?_map, h]; rfl
theorem ren_obj_none {i : Nat} (h : ∀ r g, ks[i]? ≠ some (some (r, g))) : (x.ren ks).obj i = .free := by
  unfold Ctx.obj Ctx.ren renObjs
  rw [List.getD_eq_getElem?_getD, List.getElem?_map]
  cases hk : ks[i]? with
  | none => rfl
  | some q =>
    cases q with
    | none => rfl
    | some q => exact absurd hk (h q.1 q.2)
theorem ren_μ {i r g : Nat} (h : ks[i]? = some (some (r, g))) : (x.ren ks).μ i = x.μ r := by
  show (match ks[i]? with | some (some (r, _)) => x.μ r | _ => none) = _
  rw [h]
theorem newObj_live (f : Nat → Nat → Option (Nat × Nat)) (g : Nat) (o : AObj) : (newObj f g o).live = o.live := by cases o <;> rfl

theorem ren_names : Names x (x.ren ks) (renName ks x.σ) := by
  refine ⟨fun r g r' g' p c h hp => ?_, fun r g r' g' c h hp => ?_, fun r g r' g' lo len ex c h hp => ?_, fun r r' g' c h hp => ?_⟩
  all_goals
    obtain ⟨h1, h3⟩ := renName_some h
    have h3 : _ = genOf (x.obj r) := h3
  · unfold PtrRel at hp ⊢
    rw [ren_obj h1, ren_μ h1]
    cases ho : x.obj r with
    | box v => rw [ho] at hp; simp only [newObj, AVal.told, firm_sh, refs_sh]; exact hp
    | arr g' t xs => rw [ho] at hp h3; simp only [newObj]; exact ⟨Nat.le_refl _, fun _ => hp.2 h3⟩
    | free => rw [ho] at hp; exact hp
    | _ => trivial
  · unfold SlcRel at hp ⊢
    rw [ren_obj h1, ren_μ h1]
    cases ho : x.obj r with
    | arr g' t xs => rw [ho] at hp h3; simp only [newObj]; exact ⟨Nat.le_refl _, fun _ => hp.2 h3⟩
    | free => rw [ho] at hp; exact hp
    | _ => trivial
  · unfold SubRel at hp ⊢
    rw [ren_obj h1, ren_μ h1]
    cases ho : x.obj r with
    | arr g' t xs => rw [ho] at hp h3; simp only [newObj]; exact ⟨Nat.le_refl _, fun _ => hp.2 h3⟩
    | free => rw [ho] at hp; exact hp
    | _ => trivial
  · unfold MapRel at hp ⊢
    rw [ren_obj h1, ren_μ h1]
    cases ho : x.obj r with
    | map K V m bs clk => rw [ho] at hp; simp only [newObj]; exact hp
    | iter v s l => rw [ho] at hp; simp only [newObj]; exact hp
    | free => rw [ho] at hp; exact hp
    | _ => trivial

theorem ren_mem (M : Mem x) (hnd : nodupK ks = true) : Mem (x.ren ks) := by
  have look : ∀ i, (∃ r g, ks[i]? = some (some (r, g))) ∨ (x.ren ks).obj i = .free := fun i => by
    by_cases h : ∃ r g, ks[i]? = some (some (r, g))
    · exact .inl h
    · exact .inr (ren_obj_none fun r g e => h ⟨r, g, e⟩)
  refine ⟨fun i => ?_, fun i i' a a' hne l l' m m' => ?_, fun p b hb => ?_, M.sub⟩
  · rcases look i with ⟨r, g, hi⟩ | hi
    case inr => rw [hi]; trivial
    rw [ren_obj hi]
    have h := M.objs r
    cases ho : x.obj r with
    | box v =>
      rw [ho] at h
      obtain ⟨b, c, e, h1, h2, h3, h4⟩ := h
      exact ⟨b, c, e, (ren_μ hi).trans h1, h2, firm_C _ _ (refs_C (x := x) (y := x.ren ks) (fun _ _ h => ⟨h, rfl⟩) ren_names v _ h3), (firm_flat _).trans ((refs_flat _ v).trans h4)⟩
    | arr g' t xs =>
      rw [ho] at h
      rcases h with ⟨h1, h2⟩ | ⟨b, o, c, e, css, h1, h2, h3, h4⟩
      · exact .inl ⟨(ren_μ hi).trans h1, h2⟩
      · exact .inr ⟨b, o, c, e, css, (ren_μ hi).trans h1, h2, h3, h4⟩
    | map K V m bs clk =>
      rw [ho] at h
      obtain ⟨b, es, h1, h2, h3, h4⟩ := h
      exact ⟨b, es, (ren_μ hi).trans h1, h2, h3.mono fun _ _ h => ⟨DatV.congr (x := x) (fun _ _ h => ⟨h, rfl⟩) h.1, DatV.congr (x := x) (fun _ _ h => ⟨h, rfl⟩) h.2⟩, h4⟩
    | iter v s l =>
      rw [ho] at h
      obtain ⟨b, m, h1, h2, h3, h4⟩ := h
      exact ⟨b, m, (ren_μ hi).trans h1, h2, firm_C _ _ (refs_C (x := x) (y := x.ren ks) (fun _ _ h => ⟨h, rfl⟩) ren_names v _ h3), (firm_flat _).trans ((refs_flat _ v).trans h4)⟩
    | dead => trivial
    | free => trivial
  · rcases look i with ⟨r, g, hi⟩ | hi
    case inr => rw [hi] at l; cases l
    rcases look i' with ⟨r', g', hi'⟩ | hi'
    case inr => rw [hi'] at l'; cases l'
    rw [ren_obj hi, newObj_live] at l
    rw [ren_obj hi', newObj_live] at l'
    rw [ren_μ hi] at m
    rw [ren_μ hi'] at m'
    refine M.apart r r' a a' (fun e => ?_) l l' m m'
    subst e
    exact hne (nodupK_inj ks hnd _ _ _ _ _ hi hi')
  · obtain ⟨h1, h2⟩ := M.still p b hb
    refine ⟨h1, fun i a l m => ?_⟩
    rcases look i with ⟨r, g, hi⟩ | hi
    case inr => rw [hi] at l; cases l
    rw [ren_obj hi, newObj_live] at l
    rw [ren_μ hi] at m
    exact h2 r a l m

theorem ren_goes {x0 : Ctx} {w0 w : World} (G : Goes x0 w0 x w) (hf : renFits (x0.σ.map AObj.arr0) x.σ ks = true) : Goes x0 w0 (x.ren ks) w := by
  unfold renFits at hf
  rw [Bool.and_eq_true] at hf
  obtain ⟨hnd, hf⟩ := hf
  have M := ren_mem G.mem hnd
  refine { G with mem := M, keeps := fun r => ?_, own := fun b hb => ?_ }
  · rcases Nat.lt_or_ge r x0.σ.length with hr | hr
    case inr =>
      refine Keeps.ofFree ?_
      unfold Ctx.obj
      rw [List.getD_eq_getElem?_getD, List.getElem?_eq_none hr]; rfl
    have h := List.all_eq_true.1 hf r (List.mem_range.2 (by simpa using hr))
    split at h
    case h_2 => cases h
    rename_i r' g' hi
    have K := G.keeps r
    rcases Bool.or_eq_true_iff.1 h with h | h
    · rw [Bool.and_eq_true] at h
      obtain ⟨h1, h⟩ := h
      obtain rfl := Nat.eq_of_beq_eq_true h1
      obtain rfl : g' = genOf (x.obj r') := Nat.eq_of_beq_eq_true h
      refine ⟨fun g p c hp => ?_, fun g c hp => ?_, fun g lo len ex c hp => ?_, fun c hp => ?_⟩
      · have hp := K.ptr _ _ _ hp
        unfold PtrRel at hp ⊢
        rw [ren_obj hi, ren_μ hi]
        cases ho : x.obj r' with
        | box v => rw [ho] at hp; simp only [newObj, AVal.told, firm_sh, refs_sh]; exact hp
        | arr g' t xs => rw [ho] at hp; simp only [newObj]; exact hp
        | free => rw [ho] at hp; exact hp
        | _ => trivial
      · have hp := K.slc _ _ hp
        unfold SlcRel at hp ⊢
        rw [ren_obj hi, ren_μ hi]
        cases ho : x.obj r' with
        | arr g' t xs => rw [ho] at hp; simp only [newObj]; exact hp
        | free => rw [ho] at hp; exact hp
        | _ => trivial
      · have hp := K.sub _ _ _ _ _ hp
        unfold SubRel at hp ⊢
        rw [ren_obj hi, ren_μ hi]
        cases ho : x.obj r' with
        | arr g' t xs => rw [ho] at hp; simp only [newObj]; exact hp
        | free => rw [ho] at hp; exact hp
        | _ => trivial
      · have hp := K.map _ hp
        unfold MapRel at hp ⊢
        rw [ren_obj hi, ren_μ hi]
        cases ho : x.obj r' with
        | map K V m bs clk => rw [ho] at hp; simp only [newObj]; exact hp
        | iter v s l => rw [ho] at hp; simp only [newObj]; exact hp
        | free => rw [ho] at hp; exact hp
        | _ => trivial
    · rw [Bool.and_eq_true, Bool.and_eq_true] at h
      obtain ⟨⟨h2, h3⟩, h4⟩ := h
      have h2 : (x0.obj r).arr0 = true := by
        have e : x0.σ[r]? = some (x0.obj r) := by unfold Ctx.obj; rw [List.getD_eq_getElem?_getD, List.getElem?_eq_getElem hr]; rfl
        rw [List.getD_eq_getElem?_getD, List.getElem?_map, e] at h2; exact h2
      have h3 : (x.obj r').isArr = true := h3
      have h4 : 0 < g' := by simpa [Nat.blt_eq] using h4
      cases ho : x0.obj r with
      | arr g0 t0 xs0 =>
        rw [ho] at h2
        obtain rfl : g0 = 0 := Nat.eq_of_beq_eq_true h2
        cases hx : x.obj r' with
        | arr g1 t xs =>
          refine ⟨fun g p c hp => ?_, fun g c hp => ?_, fun g lo len ex c hp => ?_, fun c hp => ?_⟩
          · unfold PtrRel at hp ⊢
            rw [ho] at hp
            rw [ren_obj hi, hx]
            exact ⟨Nat.le_trans hp.1 (Nat.zero_le _), fun e => absurd (Nat.le_zero.1 hp.1) (by omega)⟩
          · unfold SlcRel at hp ⊢
            rw [ho] at hp
            rw [ren_obj hi, hx]
            exact ⟨Nat.le_trans hp.1 (Nat.zero_le _), fun e => absurd (Nat.le_zero.1 hp.1) (by omega)⟩
          · unfold SubRel at hp ⊢
            rw [ho] at hp
            rw [ren_obj hi, hx]
            exact ⟨Nat.le_trans hp.1 (Nat.zero_le _), fun e => absurd (Nat.le_zero.1 hp.1) (by omega)⟩
          · unfold MapRel
            rw [ren_obj hi, hx]; trivial
        | _ => rw [hx] at h3; cases h3
      | _ => rw [ho] at h2; cases h2
  · obtain ⟨i, a, l, m, e⟩ := hb
    by_cases h : ∃ r g, ks[i]? = some (some (r, g))
    · obtain ⟨r, g, hi⟩ := h
      rw [ren_obj hi, newObj_live] at l
      rw [ren_μ hi] at m
      exact G.own b ⟨r, a, l, m, e⟩
    · rw [ren_obj_none fun r g e => h ⟨r, g, e⟩] at l; cases l
end

/-- What is still needed, and the objects' new names and generations. -/
structure Norm where
  live : List Nat
  ks : List (Option (Nat × Nat))

def slotsAt : List Nat → List AVal → Nat → Option AVal
  | i :: l, v :: vs, j => bif Nat.beq j i then some v else slotsAt l vs j
  | _, _, _ => none

section
variable {R : Type}

def liveK (f : Nat → Nat → Option (Nat × Nat)) (s : Nat → Option AVal) : List Nat → (List AVal → Option R) → Option R
  | [], k => k []
  | i :: l, k => match s i with
    | some v => liveK f s l fun rest => k (v.told f :: rest)
    | none => none

def tellK (g0 : List Bool) (nm : Norm) (st : St) (k : List AVal → List AObj → Option R) : Option R :=
  bif renFits g0 st.σ nm.ks then liveK (renName nm.ks st.σ) st.slots nm.live fun l => k l (renObjs nm.ks st.σ) else none

def normK (g0 : List Bool) (nm : Norm) (st : St) (k : St → Option R) : Option R := tellK g0 nm st fun l os => k ⟨slotsAt nm.live l, os⟩

theorem liveK_inv {f : Nat → Nat → Option (Nat × Nat)} {s : Nat → Option AVal} : ∀ (l : List Nat) {k : List AVal → Option R} {z : R}, liveK f s l k = some z → ∃ sl, k sl = some z ∧ (∀ i v', slotsAt l sl i = some v' → ∃ v, s i = some v ∧ v' = v.told f) ∧ ∀ (R' : Type) (k' : List AVal → Option R'), liveK f s l k' = k' sl := by
  intro l
  induction l with
  | nil => intro k z h; exact ⟨[], h, (fun i v' h => by cases h), fun _ _ => rfl⟩
  | cons i l ih =>
    intro k z h
    unfold liveK at h
    split at h
    · rename_i v hv
      obtain ⟨sl, h1, h2, h3⟩ := ih h
      refine ⟨_, h1, fun j v' hj => ?_, fun R' k' => ?_⟩
      · simp only [slotsAt] at hj
        cases hb : Nat.beq j i with
        | true => rw [hb] at hj; cases hj; rw [Nat.eq_of_beq_eq_true hb]; exact ⟨v, hv, rfl⟩
        | false => rw [hb] at hj; exact h2 j v' hj
      · simp only [liveK, hv]; exact h3 R' _
    · cases h

theorem tellK_inv {g0 : List Bool} {nm : Norm} {st : St} {k : List AVal → List AObj → Option R} {z : R} (h : tellK g0 nm st k = some z) :
    ∃ vs os, k vs os = some z ∧ (∀ (R' : Type) (k' : List AVal → List AObj → Option R'), tellK g0 nm st k' = k' vs os) ∧ renFits g0 st.σ nm.ks = true ∧ os = renObjs nm.ks st.σ ∧ ∀ i v', slotsAt nm.live vs i = some v' → ∃ v, st.slots i = some v ∧ v' = v.told (renName nm.ks st.σ) := by
  unfold tellK at h
  obtain ⟨h1, h⟩ := cond_some h
  obtain ⟨sl, h2, h3, h4⟩ := liveK_inv _ h
  refine ⟨sl, _, h2, fun R' k' => ?_, h1, rfl, h3⟩
  unfold tellK; rw [h1]; exact h4 R' _

theorem tell_sound {x0 : Ctx} {w0 : World} {N : Nat} {nm : Norm} {st : St} {k : List AVal → List AObj → Option R} {z : R} (h : tellK (x0.σ.map AObj.arr0) nm st k = some z) {a : Act} {w : World} (C : Conc x0 w0 N st a w) : ∃ vs os, k vs os = some z ∧ Conc x0 w0 N ⟨slotsAt nm.live vs, os⟩ a w := by
  obtain ⟨vs, os, h1, _, h2, h3, h4⟩ := tellK_inv h
  obtain ⟨⟨x, hσ, G, hs⟩, hsz, hdf⟩ := C
  refine ⟨vs, os, h1, ⟨x.ren nm.ks, ?_, ren_goes G (by rw [hσ]; exact h2), fun i v' hv => ?_⟩, hsz, hdf⟩
  · show renObjs nm.ks x.σ = os
    rw [h3, hσ]
  · obtain ⟨v, h5, rfl⟩ := h4 i v' hv
    obtain ⟨u, h6, h7⟩ := hs i v h5
    refine ⟨u, h6, ?_⟩
    rw [← hσ]
    exact told_V (x := x) (y := x.ren nm.ks) (fun _ _ h => ⟨h, rfl⟩) ren_names h7

theorem norm_sound {x0 : Ctx} {w0 : World} {N : Nat} {nm : Norm} {st : St} {k : St → Option R} {z : R} (h : normK (x0.σ.map AObj.arr0) nm st k = some z) {a : Act} {w : World} (C : Conc x0 w0 N st a w) : ∃ st', k st' = some z ∧ Conc x0 w0 N st' a w := by
  obtain ⟨vs, os, h1, C1⟩ := tell_sound h C
  exact ⟨_, h1, C1⟩
end
end Go.Am
