/- The abstract machine, fourteenth part: the state behind a call, out of what the callee left. -/
import Derived.Test.YtiecnmmffplgcaaAmM
namespace Go.Am

def genOf : AObj → Nat
  | .arr g _ _ => g
  | _ => 0

def locName (loc gens : List Nat) (r g : Nat) : Option (Nat × Nat) :=
  match findRef loc r with
  | some i => bif Nat.beq g (gens.getD i 0) then some (i, 0) else none
  | none => none

def locObj (f : Nat → Nat → Option (Nat × Nat)) : AObj → AObj
  | .box v => .box (v.refs f)
  | .arr _ t xs => .arr 0 t xs
  | .iter v s l => .iter (v.refs f) s l
  | o => o

def backName (loc gens : List Nat) (base : Nat) (i g : Nat) : Option (Nat × Nat) :=
  match loc[i]? with
  | some r => some (r, gens.getD i 0 + g)
  | none => some (base + (i - loc.length), g)

def backObj (b : Nat → Nat → Option (Nat × Nat)) (g0 : Nat) : AObj → AObj
  | .box v => .box (v.refs b)
  | .arr g t xs => .arr (g0 + g) t xs
  | .iter v s l => .iter (v.refs b) s l
  | o => o

def sameKind : AObj → AObj → Bool
  | .box v, .box u => v.sh == u.sh
  | .arr _ t _, .arr _ t' _ => t == t'
  | .map .., .map .. => true
  | _, .dead => true
  | _, _ => false

theorem locObj_live (f : Nat → Nat → Option (Nat × Nat)) (o : AObj) : (locObj f o).live = o.live := by cases o <;> rfl
theorem backObj_live (f : Nat → Nat → Option (Nat × Nat)) (g : Nat) (o : AObj) : (backObj f g o).live = o.live := by cases o <;> rfl

/-- The callee's state: the objects that it is handed, some blocks lent to it. -/
def Ctx.loc (x : Ctx) (loc bor : List Nat) : Ctx where
  h := x.h
  S := fun p b => x.S p b ∨ (p = false ∧ ∃ r ∈ bor, ∃ a, (x.obj r).live = true ∧ x.μ r = some a ∧ a.block = b)
  μ := fun i => match loc[i]? with | some r => x.μ r | none => none
  σ := loc.map fun r => locObj (locName loc (loc.map fun r => genOf (x.obj r))) (x.obj r)

section
variable {x : Ctx} {loc bor : List Nat}

theorem loc_obj {i r : Nat} (h : loc[i]? = some r) : (x.loc loc bor).obj i = locObj (locName loc (loc.map fun r => genOf (x.obj r))) (x.obj r) := by
  unfold Ctx.obj Ctx.loc
  rw [List.getD_eq_getElem?_getD, List.getElem?_map, h]; rfl

theorem loc_obj_none {i : Nat} (h : loc[i]? = none) : (x.loc loc bor).obj i = .free := by
  unfold Ctx.obj Ctx.loc
  rw [List.getD_eq_getElem?_getD, List.getElem?_map, h]; rfl

theorem loc_μ {i r : Nat} (h : loc[i]? = some r) : (x.loc loc bor).μ i = x.μ r := by
  show (match loc[i]? with | some r => x.μ r | none => none) = _
  rw [h]

theorem gens_at {i r : Nat} (h : loc[i]? = some r) : (loc.map fun r => genOf (x.obj r)).getD i 0 = genOf (x.obj r) := by
  rw [List.getD_eq_getElem?_getD, List.getElem?_map, h]; rfl

theorem locName_some {gens : List Nat} {r g r' g' : Nat} (h : locName loc gens r g = some (r', g')) : loc[r']? = some r ∧ g' = 0 ∧ g = gens.getD r' 0 := by
  unfold locName at h
  split at h
  · rename_i i hi
    obtain ⟨h1, h2⟩ := cond_some h
    cases h2
    exact ⟨findRef_get _ _ _ hi, rfl, Nat.eq_of_beq_eq_true h1⟩
  · cases h

theorem loc_names : Names x (x.loc loc bor) (locName loc (loc.map fun r => genOf (x.obj r))) := by
  refine ⟨fun r g r' g' p c h hp => ?_, fun r g r' g' c h hp => ?_, fun r g r' g' lo len ex c h hp => ?_, fun r r' g' c h hp => ?_⟩
  all_goals
    obtain ⟨h1, rfl, h3⟩ := locName_some h
    rw [gens_at h1] at h3
  · unfold PtrRel at hp ⊢
    rw [loc_obj h1, loc_μ h1]
    cases ho : x.obj r with
    | box v => rw [ho] at hp; simp only [locObj, refs_sh]; exact hp
    | arr g' t xs => rw [ho] at hp h3; simp only [locObj]; exact ⟨Nat.le_refl _, fun _ => hp.2 h3⟩
    | free => rw [ho] at hp; exact hp
    | _ => trivial
  · unfold SlcRel at hp ⊢
    rw [loc_obj h1, loc_μ h1]
    cases ho : x.obj r with
    | arr g' t xs => rw [ho] at hp h3; simp only [locObj]; exact ⟨Nat.le_refl _, fun _ => hp.2 h3⟩
    | free => rw [ho] at hp; exact hp
    | _ => trivial
  · unfold SubRel at hp ⊢
    rw [loc_obj h1, loc_μ h1]
    cases ho : x.obj r with
    | arr g' t xs => rw [ho] at hp h3; simp only [locObj]; exact ⟨Nat.le_refl _, fun _ => hp.2 h3⟩
    | free => rw [ho] at hp; exact hp
    | _ => trivial
  · unfold MapRel at hp ⊢
    rw [loc_obj h1, loc_μ h1]
    cases ho : x.obj r with
    | map K V m bs clk => rw [ho] at hp; simp only [locObj]; exact hp
    | iter v s l => rw [ho] at hp; simp only [locObj]; exact hp
    | free => rw [ho] at hp; exact hp
    | _ => trivial

theorem loc_S : ∀ p b, x.S p b → (x.loc loc bor).S p b ∧ (x.loc loc bor).h b = x.h b := fun _ _ h => ⟨.inl h, rfl⟩

theorem loc_mem (M : Mem x) (hnd : loc.Nodup) (hdis : ∀ r ∈ bor, r ∉ loc) : Mem (x.loc loc bor) := by
  refine ⟨fun i => ?_, fun i i' a a' hne l l' m m' => ?_, fun p b hb => ?_, fun b hb => ?_⟩
  · cases hi : loc[i]? with
    | none => rw [loc_obj_none hi]; trivial
    | some r =>
      rw [loc_obj hi]
      have h := M.objs r
      cases ho : x.obj r with
      | box v =>
        rw [ho] at h
        obtain ⟨b, c, e, h1, h2, h3, h4⟩ := h
        exact ⟨b, c, e, (loc_μ hi).trans h1, h2, refs_C loc_S loc_names v _ h3, (refs_flat _ v).trans h4⟩
      | arr g t xs =>
        rw [ho] at h
        rcases h with ⟨h1, h2⟩ | ⟨b, o, c, e, css, h1, h2, h3, h4⟩
        · exact .inl ⟨(loc_μ hi).trans h1, h2⟩
        · exact .inr ⟨b, o, c, e, css, (loc_μ hi).trans h1, h2, h3.mono fun _ _ h => h.congr fun b hb => ⟨.inl hb, rfl⟩, h4⟩
      | map K V m bs clk =>
        rw [ho] at h
        obtain ⟨b, es, h1, h2, h3, h4⟩ := h
        exact ⟨b, es, (loc_μ hi).trans h1, h2, h3.mono fun _ _ h => ⟨DatV.congr loc_S h.1, DatV.congr loc_S h.2⟩, h4⟩
      | iter v s l =>
        rw [ho] at h
        obtain ⟨b, m, h1, h2, h3, h4⟩ := h
        exact ⟨b, m, (loc_μ hi).trans h1, h2, refs_C loc_S loc_names v _ h3, (refs_flat _ v).trans h4⟩
      | dead => trivial
      | free => trivial
  · cases hi : loc[i]? with
    | none => rw [loc_obj_none hi] at l; cases l
    | some r =>
      cases hi' : loc[i']? with
      | none => rw [loc_obj_none hi'] at l'; cases l'
      | some r' =>
        rw [loc_obj hi, locObj_live] at l
        rw [loc_obj hi', locObj_live] at l'
        rw [loc_μ hi] at m
        rw [loc_μ hi'] at m'
        refine M.apart r r' a a' (fun e => ?_) l l' m m'
        subst e
        have h1 := findRef_nodup loc hnd i r hi
        have h2 := findRef_nodup loc hnd i' r hi'
        rw [h1] at h2; cases h2; exact hne rfl
  · rcases hb with hb | ⟨_, r, hr, a, hl, ha, e⟩
    · obtain ⟨h1, h2⟩ := M.still p b hb
      refine ⟨h1, fun i a l m => ?_⟩
      cases hi : loc[i]? with
      | none => rw [loc_obj_none hi] at l; cases l
      | some r => rw [loc_obj hi, locObj_live] at l; rw [loc_μ hi] at m; exact h2 r a l m
    · subst e
      refine ⟨M.there hl ha, fun i a' l m => ?_⟩
      cases hi : loc[i]? with
      | none => rw [loc_obj_none hi] at l; cases l
      | some r' =>
        rw [loc_obj hi, locObj_live] at l
        rw [loc_μ hi] at m
        exact M.apart r' r a' a (fun e => hdis r hr (by rw [← e]; exact List.mem_of_getElem? hi)) l hl m ha
  · rcases hb with hb | ⟨h, _⟩
    · exact .inl (M.sub b hb)
    · cases h

theorem loc_owned {b : Nat} (h : Owned (x.loc loc bor) b) : ∃ (i r : Nat) (a : Addr), loc[i]? = some r ∧ (x.obj r).live = true ∧ x.μ r = some a ∧ a.block = b := by
  obtain ⟨i, a, l, m, e⟩ := h
  cases hi : loc[i]? with
  | none => rw [loc_obj_none hi] at l; cases l
  | some r => rw [loc_obj hi, locObj_live] at l; rw [loc_μ hi] at m; exact ⟨i, r, a, hi, l, m, e⟩
end

def lookUp : Ups → Nat → Option AObj
  | [], _ => none
  | (r', o) :: u, r => if r = r' then some o else lookUp u r

theorem applyUps_obj : ∀ (ups : Ups) (σ : List AObj), (ups.map (·.1)).Nodup → (∀ p ∈ ups, p.1 < σ.length) → ∀ r, (applyUps σ ups).getD r .free = (lookUp ups r).getD (σ.getD r .free) := by
  intro ups
  induction ups with
  | nil => intro σ _ _ r; rfl
  | cons p ups ih =>
    intro σ hn hl r
    obtain ⟨r', o⟩ := p
    rw [List.map_cons, List.nodup_cons] at hn
    have hlt : r' < σ.length := hl (r', o) (by simp)
    show (applyUps (σ.set r' o) ups).getD r .free = _
    rw [ih (σ.set r' o) hn.2 (fun p hp => by rw [List.length_set]; exact hl p (by simp [hp])) r]
    show _ = (if r = r' then some o else lookUp ups r).getD _
    by_cases e : r = r'
    · subst e
      rw [if_pos rfl]
      have hnone : ∀ (u : Ups), r ∉ u.map (·.1) → lookUp u r = none := by
        intro u
        induction u with
        | nil => intro _; rfl
        | cons q u ihu =>
          intro h
          rw [List.map_cons, List.mem_cons, not_or] at h
          show (if r = q.1 then some q.2 else lookUp u r) = none
          rw [if_neg h.1]; exact ihu h.2
      rw [hnone ups hn.1]
      simp [List.getD_eq_getElem?_getD, List.getElem?_set, hlt]
    · rw [if_neg e]
      have : (σ.set r' o).getD r .free = σ.getD r .free := by
        simp only [List.getD_eq_getElem?_getD, List.getElem?_set]
        rw [if_neg (fun e' => e e'.symm)]
      rw [this]
end Go.Am
