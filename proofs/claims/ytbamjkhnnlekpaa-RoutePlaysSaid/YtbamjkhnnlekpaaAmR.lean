/- The abstract machine: M N O P Q R. -/
import Derived.Test.YtbamjkhnnlekpaaAmLC
/- The abstract machine, thirteenth part: what a call is handed of a state, and what comes back of it. -/
namespace Go.Am

/-- A value with its references named otherwise. -/
def AVal.refs (f : Nat → Nat → Option (Nat × Nat)) : AVal → AVal
  | .ptr r g p => match f r g with | some (r', g') => .ptr r' g' p | none => .junk
  | .slc r g => match f r g with | some (r', g') => .slc r' g' | none => .junk
  | .sub r g lo len ex => match f r g with | some (r', g') => .sub r' g' lo len ex | none => .junk
  | .map r => match f r 0 with | some (r', _) => .map r' | none => .junk
  | .pair a b => .pair (a.refs f) (b.refs f)
  | .one a => .one (a.refs f)
  | .fn i c => .fn i (c.refs f)
  | .iface t v => .iface t (v.refs f)
  | .tup v => .tup (v.refs f)
  | .cons a b => .cons (a.refs f) (b.refs f)
  | v => v

/-- Data as a callee has them: plain data are anyone's. -/
def AVal.weak : AVal → AVal
  | .dat p t x => bif t.plain then .dat false t x else .dat p t x
  | .pair a b => .pair a.weak b.weak
  | .one a => .one a.weak
  | .fn i c => .fn i c.weak
  | .iface t v => .iface t v.weak
  | .tup v => .tup v.weak
  | .cons a b => .cons a.weak b.weak
  | v => v

/-- Is nothing inside lent? -/
def AVal.kept : AVal → Bool
  | .dat p t _ => p || t.plain
  | .ref p _ _ => p
  | .pair a b => a.kept && b.kept
  | .one a => a.kept
  | .fn _ c => c.kept
  | .iface _ v => v.kept
  | .tup v => v.kept
  | .cons a b => a.kept && b.kept
  | _ => true

def AObj.kept : AObj → Bool
  | .box v => v.kept
  | .iter v _ _ => v.kept
  | .vmap _ m => m.all fun e => e.2.kept
  | _ => true

theorem refs_agg (f : Nat → Nat → Option (Nat × Nat)) (v : AVal) : (v.refs f).agg = v.agg := by
  cases v <;> simp only [AVal.refs] <;> first | rfl | (split <;> rfl)
theorem refs_sh (f : Nat → Nat → Option (Nat × Nat)) : ∀ v : AVal, (v.refs f).sh = v.sh := by
  intro v; induction v <;> simp only [AVal.refs] <;> first | rfl | (split <;> rfl) | simp_all [AVal.sh]
theorem refs_flat (f : Nat → Nat → Option (Nat × Nat)) : ∀ v : AVal, (v.refs f).flat = v.flat := by
  intro v; induction v <;> simp only [AVal.refs] <;> first | rfl | (split <;> rfl) | simp_all [AVal.flat]
theorem weak_agg (v : AVal) : v.weak.agg = v.agg := by
  cases v with
  | dat p t d => unfold AVal.weak; cases t.plain <;> rfl
  | _ => rfl

/-- What a name comes to says what was said. -/
structure Names (x y : Ctx) (f : Nat → Nat → Option (Nat × Nat)) : Prop where
  ptr : ∀ r g r' g' p c, f r g = some (r', g') → PtrRel x r g p c → PtrRel y r' g' p c
  slc : ∀ r g r' g' c, f r g = some (r', g') → SlcRel x r g c → SlcRel y r' g' c
  sub : ∀ r g r' g' lo len ex c, f r g = some (r', g') → SubRel x r g lo len ex c → SubRel y r' g' lo len ex c
  map : ∀ r r' g' c, f r 0 = some (r', g') → MapRel x r c → MapRel y r' c

theorem refs_C {x y : Ctx} {f : Nat → Nat → Option (Nat × Nat)} (hs : ∀ p b, x.S p b → y.S p b ∧ y.h b = x.h b) (N : Names x y f) : ∀ (v : AVal) (cs : List Value), v.C x cs → (v.refs f).C y cs := by
  intro v
  induction v with
  | dat p t d => exact fun cs h => h.congr (hs p)
  | pair a b iha ihb => rintro cs ⟨c1, c2, e, h1, h2⟩; exact ⟨c1, c2, e, iha _ h1, ihb _ h2⟩
  | one a ih => exact fun cs h => ih cs h
  | ptr r g p =>
    rintro cs ⟨c, e, h1, h⟩; simp only [AVal.refs]
    cases hf : f r g with
    | none => exact ⟨c, e, h1⟩
    | some q => exact ⟨c, e, h1, N.ptr _ _ _ _ _ _ hf h⟩
  | nilp => exact fun _ h => h
  | ref p t d => rintro cs ⟨b, o, ds, e, h1, h2, h3⟩; exact ⟨b, o, ds, e, (hs _ _ h1).1, h2.congr (hs _ _ h1).2, h3.congr (hs p)⟩
  | slc r g =>
    rintro cs ⟨c, e, h1, h⟩; simp only [AVal.refs]
    cases hf : f r g with
    | none => exact ⟨c, e, h1⟩
    | some q => exact ⟨c, e, h1, N.slc _ _ _ _ _ hf h⟩
  | sub r g lo len ex =>
    rintro cs ⟨c, e, h1, h⟩; simp only [AVal.refs]
    cases hf : f r g with
    | none => exact ⟨c, e, h1⟩
    | some q => exact ⟨c, e, h1, N.sub _ _ _ _ _ _ _ _ hf h⟩
  | nils => exact fun _ h => h
  | map r =>
    rintro cs ⟨c, e, h1, h⟩; simp only [AVal.refs]
    cases hf : f r 0 with
    | none => exact ⟨c, e, h1⟩
    | some q => exact ⟨c, e, h1, N.map _ _ _ _ hf h⟩
  | nilm => exact fun _ h => h
  | fn i caps ih => rintro cs ⟨vs, e, h⟩; exact ⟨vs, by rw [e]; congr 2; cases caps <;> first | rfl | (simp only [AVal.refs]; split <;> rfl) | (simp only [AVal.weak, AVal.isTup]; rename_i t _; cases t.plain <;> rfl), ih _ h⟩
  | nilf => exact fun _ h => h
  | iface t v ih =>
    rintro cs ⟨u, e, h⟩; refine ⟨u, e, ?_⟩
    rw [refs_agg]
    by_cases hv : v.agg = true
    · rw [if_pos hv] at h ⊢; obtain ⟨c, e, h⟩ := h; exact ⟨c, e, ih _ h⟩
    · rw [if_neg hv] at h ⊢; exact ih _ h
  | nili => exact fun _ h => h
  | tup vs ih => rintro cs ⟨us, e, h⟩; exact ⟨us, e, ih _ h⟩
  | nil => exact fun _ h => h
  | cons a b iha ihb =>
    rintro cs ⟨u, us, e, h, h'⟩; refine ⟨u, us, e, ?_, ihb _ h'⟩
    rw [refs_agg]
    by_cases hv : a.agg = true
    · rw [if_pos hv] at h ⊢; obtain ⟨c, e, h⟩ := h; exact ⟨c, e, iha _ h⟩
    · rw [if_neg hv] at h ⊢; exact iha _ h
  | junk => exact fun _ h => h

theorem V_of_C {x y : Ctx} {v v' : AVal} (ha : v'.agg = v.agg) (hC : ∀ cs, v.C x cs → v'.C y cs) {u : Value} (h : v.V x u) : v'.V y u := by
  unfold AVal.V at *
  rw [ha]
  by_cases hv : v.agg = true
  · rw [if_pos hv] at h ⊢; obtain ⟨c, e, h⟩ := h; exact ⟨c, e, hC _ h⟩
  · rw [if_neg hv] at h ⊢; exact hC _ h

theorem refs_V {x y : Ctx} {f : Nat → Nat → Option (Nat × Nat)} (hs : ∀ p b, x.S p b → y.S p b ∧ y.h b = x.h b) (N : Names x y f) {v : AVal} {u : Value} (h : v.V x u) : (v.refs f).V y u :=
  V_of_C (refs_agg f v) (refs_C hs N v) h

theorem weak_C {x : Ctx} : ∀ (v : AVal) (cs : List Value), v.C x cs → v.weak.C x cs := by
  intro v
  induction v with
  | dat p t d =>
    intro cs h
    unfold AVal.weak
    cases hp : t.plain with
    | false => exact h
    | true => exact Ty.Rel.ofPlain _ _ _ hp h
  | pair a b iha ihb => rintro cs ⟨c1, c2, e, h1, h2⟩; exact ⟨c1, c2, e, iha _ h1, ihb _ h2⟩
  | one a ih => exact fun cs h => ih cs h
  | fn i caps ih => rintro cs ⟨vs, e, h⟩; exact ⟨vs, by rw [e]; congr 2; cases caps <;> first | rfl | (simp only [AVal.refs]; split <;> rfl) | (simp only [AVal.weak, AVal.isTup]; rename_i t _; cases t.plain <;> rfl), ih _ h⟩
  | iface t v ih =>
    rintro cs ⟨u, e, h⟩; refine ⟨u, e, ?_⟩
    rw [weak_agg]
    by_cases hv : v.agg = true
    · rw [if_pos hv] at h ⊢; obtain ⟨c, e, h⟩ := h; exact ⟨c, e, ih _ h⟩
    · rw [if_neg hv] at h ⊢; exact ih _ h
  | tup vs ih => rintro cs ⟨us, e, h⟩; exact ⟨us, e, ih _ h⟩
  | cons a b iha ihb =>
    rintro cs ⟨u, us, e, h, h'⟩; refine ⟨u, us, e, ?_, ihb _ h'⟩
    rw [weak_agg]
    by_cases hv : a.agg = true
    · rw [if_pos hv] at h ⊢; obtain ⟨c, e, h⟩ := h; exact ⟨c, e, iha _ h⟩
    · rw [if_neg hv] at h ⊢; exact iha _ h
  | _ => exact fun _ h => h

/-- Where nothing is lent, it does not matter what is lent. -/
theorem kept_C {x y : Ctx} (hs : ∀ b, x.S true b → y.S true b ∧ y.h b = x.h b) (hk : ∀ r, Keeps x y r) : ∀ (v : AVal) (cs : List Value), v.kept = true → v.C x cs → v.C y cs := by
  intro v
  induction v with
  | dat p t d =>
    intro cs hp h
    cases p with
    | true => exact h.congr hs
    | false => exact Ty.Rel.ofPlain t d cs (by simpa [AVal.kept] using hp) h
  | ref p t d =>
    intro cs hp h
    cases p with
    | true => obtain ⟨b, o, ds, e, h1, h2, h3⟩ := h; exact ⟨b, o, ds, e, (hs _ h1).1, h2.congr (hs _ h1).2, h3.congr hs⟩
    | false => cases hp
  | pair a b iha ihb => rintro cs hp ⟨c1, c2, e, h1, h2⟩; simp only [AVal.kept, Bool.and_eq_true] at hp; exact ⟨c1, c2, e, iha _ hp.1 h1, ihb _ hp.2 h2⟩
  | one a ih => exact fun cs hp h => ih cs hp h
  | ptr r g p => rintro cs _ ⟨c, e, h1, h⟩; exact ⟨c, e, h1, (hk r).ptr _ _ _ h⟩
  | slc r g => rintro cs _ ⟨c, e, h1, h⟩; exact ⟨c, e, h1, (hk r).slc _ _ h⟩
  | sub r g lo len ex => rintro cs _ ⟨c, e, h1, h⟩; exact ⟨c, e, h1, (hk r).sub _ _ _ _ _ h⟩
  | map r => rintro cs _ ⟨c, e, h1, h⟩; exact ⟨c, e, h1, (hk r).map _ h⟩
  | fn i caps ih => rintro cs hp ⟨vs, e, h⟩; exact ⟨vs, e, ih _ hp h⟩
  | iface t v ih =>
    rintro cs hp ⟨u, e, h⟩; refine ⟨u, e, ?_⟩
    by_cases hv : v.agg = true
    · rw [if_pos hv] at h ⊢; obtain ⟨c, e, h⟩ := h; exact ⟨c, e, ih _ hp h⟩
    · rw [if_neg hv] at h ⊢; exact ih _ hp h
  | tup vs ih => rintro cs hp ⟨us, e, h⟩; exact ⟨us, e, ih _ hp h⟩
  | cons a b iha ihb =>
    rintro cs hp ⟨u, us, e, h, h'⟩; simp only [AVal.kept, Bool.and_eq_true] at hp; refine ⟨u, us, e, ?_, ihb _ hp.2 h'⟩
    by_cases hv : a.agg = true
    · rw [if_pos hv] at h ⊢; obtain ⟨c, e, h⟩ := h; exact ⟨c, e, iha _ hp.1 h⟩
    · rw [if_neg hv] at h ⊢; exact iha _ hp.1 h
  | _ => exact fun _ _ h => h

/-- Which one of some references it is. -/
def findRef : List Nat → Nat → Option Nat
  | [], _ => none
  | r' :: l, r => bif Nat.beq r r' then some 0 else (match findRef l r with | some i => some (i + 1) | none => none)

theorem findRef_get : ∀ (l : List Nat) (r i : Nat), findRef l r = some i → l[i]? = some r := by
  intro l
  induction l with
  | nil => intro r i h; cases h
  | cons r' l ih =>
    intro r i h
    unfold findRef at h
    cases hb : Nat.beq r r' with
    | true => rw [hb] at h; cases h; simp [Nat.eq_of_beq_eq_true hb]
    | false =>
      rw [hb] at h
      simp only [cond_false] at h
      split at h
      · rename_i j hj; cases h; simpa using ih r j hj
      · cases h

theorem findRef_none : ∀ (l : List Nat) (r : Nat), findRef l r = none → r ∉ l := by
  intro l
  induction l with
  | nil => intro r _; simp
  | cons r' l ih =>
    intro r h
    unfold findRef at h
    cases hb : Nat.beq r r' with
    | true => rw [hb] at h; cases h
    | false =>
      rw [hb] at h
      simp only [cond_false] at h
      split at h
      · cases h
      · rename_i hn
        simp only [List.mem_cons, not_or]
        exact ⟨(fun e => by rw [e, Nat.beq_refl] at hb; cases hb), ih r hn⟩

theorem findRef_nodup : ∀ (l : List Nat), l.Nodup → ∀ (i r : Nat), l[i]? = some r → findRef l r = some i := by
  intro l
  induction l with
  | nil => intro _ i r h; simp at h
  | cons r' l ih =>
    intro hn i r h
    rw [List.nodup_cons] at hn
    unfold findRef
    cases i with
    | zero => simp at h; subst h; simp [Nat.beq_refl]
    | succ i =>
      have h' : l[i]? = some r := by simpa using h
      have hne : Nat.beq r r' = false := by
        cases hb : Nat.beq r r' with
        | false => rfl
        | true => exact absurd (List.mem_of_getElem? h') (by rw [Nat.eq_of_beq_eq_true hb]; exact hn.1)
      rw [hne, ih hn.2 i r h']; rfl
end Go.Am

/- The abstract machine, fourteenth part: the state behind a call, out of what the callee left. -/
namespace Go.Am

def genOf : AObj → Nat
  | .arr g _ _ => g
  | _ => 0

def locName (loc gens : List Nat) (r g : Nat) : Option (Nat × Nat) :=
  match findRef loc r with
  | some i => bif Nat.beq g (gens.getD i 0) then some (i, 0) else none
  | none => none

def locObj (f : Nat → Nat → Option (Nat × Nat)) : AObj → AObj
  | .box v => .box (v.refs f)
  | .arr _ t xs => .arr 0 t xs
  | .iter v s l => .iter (v.refs f) s l
  | .vmap K m => .vmap K (m.map fun e => (e.1, e.2.refs f))
  | o => o

def backName (loc gens : List Nat) (base : Nat) (i g : Nat) : Option (Nat × Nat) :=
  match loc[i]? with
  | some r => some (r, gens.getD i 0 + g)
  | none => some (base + (i - loc.length), g)

def backObj (b : Nat → Nat → Option (Nat × Nat)) (g0 : Nat) : AObj → AObj
  | .box v => .box (v.refs b)
  | .arr g t xs => .arr (g0 + g) t xs
  | .iter v s l => .iter (v.refs b) s l
  | .vmap K m => .vmap K (m.map fun e => (e.1, e.2.refs b))
  | o => o

def sameKind : AObj → AObj → Bool
  | .box v, .box u => v.sh == u.sh
  | .arr _ t _, .arr _ t' _ => t == t'
  | .map .., .map .. => true
  | .vmap .., .vmap .. => true
  | _, .dead => true
  | _, _ => false

theorem locObj_live (f : Nat → Nat → Option (Nat × Nat)) (o : AObj) : (locObj f o).live = o.live := by cases o <;> rfl
theorem backObj_live (f : Nat → Nat → Option (Nat × Nat)) (g : Nat) (o : AObj) : (backObj f g o).live = o.live := by cases o <;> rfl

/-- The callee's state: the objects that it is handed, some blocks lent to it. -/
def Ctx.loc (x : Ctx) (loc bor : List Nat) : Ctx where
  h := x.h
  S := fun p b => x.S p b ∨ (p = false ∧ ∃ r ∈ bor, ∃ a, (x.obj r).live = true ∧ x.μ r = some a ∧ a.block = b)
  μ := fun i => match loc[i]? with | some r => x.μ r | none => none
  σ := loc.map fun r => locObj (locName loc (loc.map fun r => genOf (x.obj r))) (x.obj r)

section
variable {x : Ctx} {loc bor : List Nat}

theorem loc_obj {i r : Nat} (h : loc[i]? = some r) : (x.loc loc bor).obj i = locObj (locName loc (loc.map fun r => genOf (x.obj r))) (x.obj r) := by
  unfold Ctx.obj Ctx.loc
  rw [List.getD_eq_getElem?_getD, List.getElem?_map, h]; rfl

theorem loc_obj_none {i : Nat} (h : loc[i]? = none) : (x.loc loc bor).obj i = .free := by
  unfold Ctx.obj Ctx.loc
  rw [List.getD_eq_getElem?_getD, List.getElem?_map, h]; rfl

theorem loc_μ {i r : Nat} (h : loc[i]? = some r) : (x.loc loc bor).μ i = x.μ r := by
  show (match loc[i]? with | some r => x.μ r | none => none) = _
  rw [h]

theorem gens_at {i r : Nat} (h : loc[i]? = some r) : (loc.map fun r => genOf (x.obj r)).getD i 0 = genOf (x.obj r) := by
  rw [List.getD_eq_getElem?_getD, List.getElem?_map, h]; rfl

theorem locName_some {gens : List Nat} {r g r' g' : Nat} (h : locName loc gens r g = some (r', g')) : loc[r']? = some r ∧ g' = 0 ∧ g = gens.getD r' 0 := by
  unfold locName at h
  split at h
  · rename_i i hi
    obtain ⟨h1, h2⟩ := cond_some h
    cases h2
    exact ⟨findRef_get _ _ _ hi, rfl, Nat.eq_of_beq_eq_true h1⟩
  · cases h

theorem loc_names : Names x (x.loc loc bor) (locName loc (loc.map fun r => genOf (x.obj r))) := by
  refine ⟨fun r g r' g' p c h hp => ?_, fun r g r' g' c h hp => ?_, fun r g r' g' lo len ex c h hp => ?_, fun r r' g' c h hp => ?_⟩
  all_goals
    obtain ⟨h1, rfl, h3⟩ := locName_some h
    rw [gens_at h1] at h3
  · unfold PtrRel at hp ⊢
    rw [loc_obj h1, loc_μ h1]
    cases ho : x.obj r with
    | box v => rw [ho] at hp; simp only [locObj, refs_sh]; exact hp
    | arr g' t xs => rw [ho] at hp h3; simp only [locObj]; exact ⟨Nat.le_refl _, fun _ => hp.2 h3⟩
    | free => rw [ho] at hp; exact hp
    | _ => trivial
  · unfold SlcRel at hp ⊢
    rw [loc_obj h1, loc_μ h1]
    cases ho : x.obj r with
    | arr g' t xs => rw [ho] at hp h3; simp only [locObj]; exact ⟨Nat.le_refl _, fun _ => hp.2 h3⟩
    | free => rw [ho] at hp; exact hp
    | _ => trivial
  · unfold SubRel at hp ⊢
    rw [loc_obj h1, loc_μ h1]
    cases ho : x.obj r with
    | arr g' t xs => rw [ho] at hp h3; simp only [locObj]; exact ⟨Nat.le_refl _, fun _ => hp.2 h3⟩
    | free => rw [ho] at hp; exact hp
    | _ => trivial
  · unfold MapRel at hp ⊢
    rw [loc_obj h1, loc_μ h1]
    cases ho : x.obj r with
    | map K V m bs clk => rw [ho] at hp; simp only [locObj]; exact hp
    | iter v s l => rw [ho] at hp; simp only [locObj]; exact hp
    | vmap K m => rw [ho] at hp; simp only [locObj]; exact hp
    | free => rw [ho] at hp; exact hp
    | _ => trivial

theorem loc_S : ∀ p b, x.S p b → (x.loc loc bor).S p b ∧ (x.loc loc bor).h b = x.h b := fun _ _ h => ⟨.inl h, rfl⟩

theorem loc_mem (M : Mem x) (hnd : loc.Nodup) (hdis : ∀ r ∈ bor, r ∉ loc) : Mem (x.loc loc bor) := by
  refine ⟨fun i => ?_, fun i i' a a' hne l l' m m' => ?_, fun p b hb => ?_, fun b hb => ?_⟩
  · cases hi : loc[i]? with
    | none => rw [loc_obj_none hi]; trivial
    | some r =>
      rw [loc_obj hi]
      have h := M.objs r
      cases ho : x.obj r with
      | box v =>
        rw [ho] at h
        obtain ⟨b, c, e, h1, h2, h3, h4⟩ := h
        exact ⟨b, c, e, (loc_μ hi).trans h1, h2, refs_C loc_S loc_names v _ h3, (refs_flat _ v).trans h4⟩
      | arr g t xs =>
        rw [ho] at h
        rcases h with ⟨h1, h2⟩ | ⟨b, o, c, e, css, h1, h2, h3, h4⟩
        · exact .inl ⟨(loc_μ hi).trans h1, h2⟩
        · exact .inr ⟨b, o, c, e, css, (loc_μ hi).trans h1, h2, h3.mono fun _ _ h => h.congr fun b hb => ⟨.inl hb, rfl⟩, h4⟩
      | map K V m bs clk =>
        rw [ho] at h
        obtain ⟨b, es, h1, h2, h3, h4⟩ := h
        exact ⟨b, es, (loc_μ hi).trans h1, h2, h3.mono fun _ _ h => ⟨DatV.congr loc_S h.1, DatV.congr loc_S h.2⟩, h4⟩
      | iter v s l =>
        rw [ho] at h
        obtain ⟨b, m, h1, h2, h3, h4⟩ := h
        exact ⟨b, m, (loc_μ hi).trans h1, h2, refs_C loc_S loc_names v _ h3, (refs_flat _ v).trans h4⟩
      | vmap K m =>
        rw [ho] at h
        obtain ⟨b, es, clk, h1, h2, h3⟩ := h
        exact ⟨b, es, clk, (loc_μ hi).trans h1, h2, h3.mapL fun _ _ h => ⟨DatV.congr loc_S h.1, refs_V loc_S loc_names h.2⟩⟩
      | dead => trivial
      | free => trivial
  · cases hi : loc[i]? with
    | none => rw [loc_obj_none hi] at l; cases l
    | some r =>
      cases hi' : loc[i']? with
      | none => rw [loc_obj_none hi'] at l'; cases l'
      | some r' =>
        rw [loc_obj hi, locObj_live] at l
        rw [loc_obj hi', locObj_live] at l'
        rw [loc_μ hi] at m
        rw [loc_μ hi'] at m'
        refine M.apart r r' a a' (fun e => ?_) l l' m m'
        subst e
        have h1 := findRef_nodup loc hnd i r hi
        have h2 := findRef_nodup loc hnd i' r hi'
        rw [h1] at h2; cases h2; exact hne rfl
  · rcases hb with hb | ⟨_, r, hr, a, hl, ha, e⟩
    · obtain ⟨h1, h2⟩ := M.still p b hb
      refine ⟨h1, fun i a l m => ?_⟩
      cases hi : loc[i]? with
      | none => rw [loc_obj_none hi] at l; cases l
      | some r => rw [loc_obj hi, locObj_live] at l; rw [loc_μ hi] at m; exact h2 r a l m
    · subst e
      refine ⟨M.there hl ha, fun i a' l m => ?_⟩
      cases hi : loc[i]? with
      | none => rw [loc_obj_none hi] at l; cases l
      | some r' =>
        rw [loc_obj hi, locObj_live] at l
        rw [loc_μ hi] at m
        exact M.apart r' r a' a (fun e => hdis r hr (by rw [← e]; exact List.mem_of_getElem? hi)) l hl m ha
  · rcases hb with hb | ⟨h, _⟩
    · exact .inl (M.sub b hb)
    · cases h

theorem loc_owned {b : Nat} (h : Owned (x.loc loc bor) b) : ∃ (i r : Nat) (a : Addr), loc[i]? = some r ∧ (x.obj r).live = true ∧ x.μ r = some a ∧ a.block = b := by
  obtain ⟨i, a, l, m, e⟩ := h
  cases hi : loc[i]? with
  | none => rw [loc_obj_none hi] at l; cases l
  | some r => rw [loc_obj hi, locObj_live] at l; rw [loc_μ hi] at m; exact ⟨i, r, a, hi, l, m, e⟩
end

def lookUp : Ups → Nat → Option AObj
  | [], _ => none
  | (r', o) :: u, r => if r = r' then some o else lookUp u r

theorem applyUps_obj : ∀ (ups : Ups) (σ : List AObj), (ups.map (·.1)).Nodup → (∀ p ∈ ups, p.1 < σ.length) → ∀ r, (applyUps σ ups).getD r .free = (lookUp ups r).getD (σ.getD r .free) := by
  intro ups
  induction ups with
  | nil => intro σ _ _ r; rfl
  | cons p ups ih =>
    intro σ hn hl r
    obtain ⟨r', o⟩ := p
    rw [List.map_cons, List.nodup_cons] at hn
    have hlt : r' < σ.length := hl (r', o) (by simp)
    show (applyUps (σ.set r' o) ups).getD r .free = _
    rw [ih (σ.set r' o) hn.2 (fun p hp => by rw [List.length_set]; exact hl p (by simp [hp])) r]
    show _ = (if r = r' then some o else lookUp ups r).getD _
    by_cases e : r = r'
    · subst e
      rw [if_pos rfl]
      have hnone : ∀ (u : Ups), r ∉ u.map (·.1) → lookUp u r = none := by
        intro u
        induction u with
        | nil => intro _; rfl
        | cons q u ihu =>
          intro h
          rw [List.map_cons, List.mem_cons, not_or] at h
          show (if r = q.1 then some q.2 else lookUp u r) = none
          rw [if_neg h.1]; exact ihu h.2
      rw [hnone ups hn.1]
      simp [List.getD_eq_getElem?_getD, List.getElem?_set, hlt]
    · rw [if_neg e]
      have : (σ.set r' o).getD r .free = σ.getD r .free := by
        simp only [List.getD_eq_getElem?_getD, List.getElem?_set]
        rw [if_neg (fun e' => e e'.symm)]
      rw [this]
end Go.Am

/- The abstract machine, fifteenth part: what a caller knows behind a call. -/
namespace Go.Am

/-- The caller's state behind the call: y: what the callee left. -/
def Ctx.back (x y : Ctx) (loc bor : List Nat) (base fresh : Nat) : Ctx where
  h := y.h
  S := fun p b => if p = true then y.S true b else if bor = [] then y.S false b else x.S false b ∨ y.S true b
  μ := fun r => match findRef loc r with
    | some i => y.μ i
    | none => if base ≤ r ∧ r < base + fresh then y.μ (loc.length + (r - base)) else x.μ r
  σ := applyUps x.σ ((loc ++ List.range' base fresh).zip ((List.range (loc.length + fresh)).map fun i =>
    backObj (backName loc (loc.map fun r => genOf (x.obj r)) base) ((loc.map fun r => genOf (x.obj r)).getD i 0) (y.obj i)))

/-- What is asked of a call's annotation, and of what the callee left. -/
structure CallFits (x y : Ctx) (loc bor : List Nat) (base fresh : Nat) : Prop where
  nodup : loc.Nodup
  live : ∀ r ∈ loc, (x.obj r).live = true
  free : ∀ j, j < fresh → x.σ[base + j]? = some .free
  lent : ∀ r ∈ bor, r ∉ loc ∧ (x.obj r).live = true
  len : y.σ.length = loc.length + fresh
  kind : ∀ i r, loc[i]? = some r → sameKind (x.obj r) (y.obj i) = true
  kept : bor = [] ∨ ∀ i, (y.obj i).kept = true

section
variable {x y' : Ctx} {loc bor : List Nat} {base fresh : Nat} {w w' : World}

theorem zip_lookup : ∀ (ks : List Nat) (os : List AObj), ks.Nodup → ks.length = os.length → ∀ (i : Nat) k, ks[i]? = some k → lookUp (ks.zip os) k = os[i]? := by
  intro ks
  induction ks with
  | nil => intro os _ _ i k h; simp at h
  | cons k0 ks ih =>
    intro os hn hl i k h
    cases os with
    | nil => cases hl
    | cons o os =>
      rw [List.nodup_cons] at hn
      show (if k = k0 then some o else lookUp (ks.zip os) k) = _
      cases i with
      | zero => simp at h; subst h; simp
      | succ i =>
        have h' : ks[i]? = some k := by simpa using h
        rw [if_neg (fun e => hn.1 (by rw [← e]; exact List.mem_of_getElem? h'))]
        simpa using ih os hn.2 (by simpa using hl) i k h'

theorem zip_lookup_none : ∀ (ks : List Nat) (os : List AObj) (k : Nat), k ∉ ks → lookUp (ks.zip os) k = none := by
  intro ks
  induction ks with
  | nil => intro os k _; rfl
  | cons k0 ks ih =>
    intro os k h
    rw [List.mem_cons, not_or] at h
    cases os with
    | nil => rfl
    | cons o os => show (if k = k0 then some o else lookUp (ks.zip os) k) = _; rw [if_neg h.1]; exact ih os k h.2

theorem CallFits.keys (F : CallFits x y' loc bor base fresh) : (loc ++ List.range' base fresh).Nodup := by
  rw [List.nodup_append]
  refine ⟨F.nodup, List.nodup_range', fun a ha b hb e => ?_⟩
  subst e
  rw [List.mem_range'_1] at hb
  have := F.free (a - base) (by omega)
  rw [show base + (a - base) = a by omega] at this
  have hl := F.live a ha
  rw [obj_of_get this] at hl; cases hl

theorem CallFits.lt (F : CallFits x y' loc bor base fresh) : ∀ r ∈ loc ++ List.range' base fresh, r < x.σ.length := by
  intro r hr
  rcases List.mem_append.1 hr with hr | hr
  · rcases Nat.lt_or_ge r x.σ.length with h | h
    · exact h
    · have hl := F.live r hr
      unfold Ctx.obj at hl
      rw [List.getD_eq_getElem?_getD, List.getElem?_eq_none h] at hl; cases hl
  · rw [List.mem_range'_1] at hr
    have := F.free (r - base) (by omega)
    rw [show base + (r - base) = r by omega] at this
    exact (List.getElem?_eq_some_iff.1 this).1

/-- The objects behind the call. -/
theorem back_obj (F : CallFits x y' loc bor base fresh) (r : Nat) : (x.back y' loc bor base fresh).obj r =
    match findRef loc r with
    | some i => backObj (backName loc (loc.map fun r => genOf (x.obj r)) base) (genOf (x.obj r)) (y'.obj i)
    | none => if base ≤ r ∧ r < base + fresh then backObj (backName loc (loc.map fun r => genOf (x.obj r)) base) 0 (y'.obj (loc.length + (r - base))) else x.obj r := by
  have hlen : (loc ++ List.range' base fresh).length = ((List.range (loc.length + fresh)).map fun i => backObj (backName loc (loc.map fun r => genOf (x.obj r)) base) ((loc.map fun r => genOf (x.obj r)).getD i 0) (y'.obj i)).length := by simp
  have happ := applyUps_obj ((loc ++ List.range' base fresh).zip ((List.range (loc.length + fresh)).map fun i => backObj (backName loc (loc.map fun r => genOf (x.obj r)) base) ((loc.map fun r => genOf (x.obj r)).getD i 0) (y'.obj i))) x.σ
    (by rw [List.map_fst_zip (by rw [hlen]; exact Nat.le_refl _)]; exact F.keys) (fun p hp => F.lt p.1 (List.of_mem_zip hp).1) r
  show (applyUps x.σ _).getD r .free = _
  rw [happ]
  cases hf : findRef loc r with
  | some i =>
    have hi := findRef_get _ _ _ hf
    have hil : i < loc.length := (List.getElem?_eq_some_iff.1 hi).1
    have h1 : (loc ++ List.range' base fresh)[i]? = some r := by rw [List.getElem?_append_left hil]; exact hi
    rw [zip_lookup _ _ F.keys hlen i r h1]
    rw [List.getElem?_map, List.getElem?_range (by omega)]
    simp only [Option.map_some, Option.getD_some]
    rw [gens_at hi]
  | none =>
    have hnot := findRef_none _ _ hf
    by_cases hb : base ≤ r ∧ r < base + fresh
    · rw [if_pos hb]
      have h1 : (loc ++ List.range' base fresh)[loc.length + (r - base)]? = some r := by
        rw [List.getElem?_append_right (by omega), show loc.length + (r - base) - loc.length = r - base by omega, List.getElem?_range' (by omega)]
        congr 1; omega
      rw [zip_lookup _ _ F.keys hlen _ r h1, List.getElem?_map, List.getElem?_range (by omega)]
      simp only [Option.map_some, Option.getD_some]
      have : (loc.map fun r => genOf (x.obj r)).getD (loc.length + (r - base)) 0 = 0 := by
        rw [List.getD_eq_getElem?_getD, List.getElem?_eq_none (by simp)]; rfl
      rw [this]
    · rw [if_neg hb, zip_lookup_none]
      · rfl
      · intro hm
        rcases List.mem_append.1 hm with hm | hm
        · exact hnot hm
        · rw [List.mem_range'_1] at hm; exact hb hm

theorem back_μ (r : Nat) : (x.back y' loc bor base fresh).μ r = match findRef loc r with
    | some i => y'.μ i
    | none => if base ≤ r ∧ r < base + fresh then y'.μ (loc.length + (r - base)) else x.μ r := rfl

/-- Where an object of the callee's is now: which one it is to the caller. -/
theorem back_at (F : CallFits x y' loc bor base fresh) (i : Nat) (hi : i < loc.length + fresh) : ∃ r g0, (∀ g, backName loc (loc.map fun r => genOf (x.obj r)) base i g = some (r, g0 + g)) ∧
    (x.back y' loc bor base fresh).obj r = backObj (backName loc (loc.map fun r => genOf (x.obj r)) base) g0 (y'.obj i) ∧ (x.back y' loc bor base fresh).μ r = y'.μ i := by
  cases h : loc[i]? with
  | some r =>
    have hf := findRef_nodup loc F.nodup i r h
    refine ⟨r, genOf (x.obj r), fun g => ?_, ?_, ?_⟩
    · unfold backName; rw [h]; simp only [gens_at h]
    · rw [back_obj F, hf]
    · rw [back_μ, hf]
  | none =>
    have hl : loc.length ≤ i := by
      rcases Nat.lt_or_ge i loc.length with h1 | h1
      · rw [List.getElem?_eq_getElem h1] at h; cases h
      · exact h1
    have hr : findRef loc (base + (i - loc.length)) = none := by
      cases hf : findRef loc (base + (i - loc.length)) with
      | none => rfl
      | some j =>
        exfalso
        have hm := List.mem_of_getElem? (findRef_get _ _ _ hf)
        have h1 := F.live _ hm
        rw [obj_of_get (F.free (i - loc.length) (by omega))] at h1; cases h1
    refine ⟨base + (i - loc.length), 0, fun g => ?_, ?_, ?_⟩
    · unfold backName; rw [h]; simp
    · rw [back_obj F, hr]
      simp only
      rw [if_pos (by omega)]
      congr 2; omega
    · rw [back_μ, hr]
      simp only
      rw [if_pos (by omega)]
      congr 1; omega

theorem obj_beyond {i : Nat} (h : y'.σ.length ≤ i) : y'.obj i = .free := by
  unfold Ctx.obj; rw [List.getD_eq_getElem?_getD, List.getElem?_eq_none h]; rfl

theorem back_names (F : CallFits x y' loc bor base fresh) : Names y' (x.back y' loc bor base fresh) (backName loc (loc.map fun r => genOf (x.obj r)) base) := by
  refine ⟨fun i g r' g' p c h hp => ?_, fun i g r' g' c h hp => ?_, fun i g r' g' lo len ex c h hp => ?_, fun i r' g' c h hp => ?_⟩
  · by_cases hi : i < loc.length + fresh
    · obtain ⟨r, g0, h1, h2, h3⟩ := back_at F i hi
      rw [h1] at h; cases h
      unfold PtrRel at hp ⊢
      rw [h2, h3]
      cases ho : y'.obj i with
      | box v => rw [ho] at hp; simp only [backObj, refs_sh]; exact hp
      | arr g' t xs => rw [ho] at hp; simp only [backObj]; exact ⟨by omega, fun e => hp.2 (by omega)⟩
      | free => rw [ho] at hp; exact hp
      | _ => trivial
    · unfold PtrRel at hp; rw [obj_beyond (by rw [F.len]; omega)] at hp; exact hp.elim
  · by_cases hi : i < loc.length + fresh
    · obtain ⟨r, g0, h1, h2, h3⟩ := back_at F i hi
      rw [h1] at h; cases h
      unfold SlcRel at hp ⊢
      rw [h2, h3]
      cases ho : y'.obj i with
      | arr g' t xs => rw [ho] at hp; simp only [backObj]; exact ⟨by omega, fun e => hp.2 (by omega)⟩
      | free => rw [ho] at hp; exact hp
      | _ => trivial
    · unfold SlcRel at hp; rw [obj_beyond (by rw [F.len]; omega)] at hp; exact hp.elim
  · by_cases hi : i < loc.length + fresh
    · obtain ⟨r, g0, h1, h2, h3⟩ := back_at F i hi
      rw [h1] at h; cases h
      unfold SubRel at hp ⊢
      rw [h2, h3]
      cases ho : y'.obj i with
      | arr g' t xs => rw [ho] at hp; simp only [backObj]; exact ⟨by omega, fun e => hp.2 (by omega)⟩
      | free => rw [ho] at hp; exact hp
      | _ => trivial
    · unfold SubRel at hp; rw [obj_beyond (by rw [F.len]; omega)] at hp; exact hp.elim
  · by_cases hi : i < loc.length + fresh
    · obtain ⟨r, g0, h1, h2, h3⟩ := back_at F i hi
      rw [h1] at h; cases h
      unfold MapRel at hp ⊢
      rw [h2, h3]
      cases ho : y'.obj i with
      | map K V m bs clk => rw [ho] at hp; simp only [backObj]; exact hp
      | iter v s l => rw [ho] at hp; simp only [backObj]; exact hp
      | vmap K m => rw [ho] at hp; simp only [backObj]; exact hp
      | free => rw [ho] at hp; exact hp
      | _ => trivial
    · unfold MapRel at hp; rw [obj_beyond (by rw [F.len]; omega)] at hp; exact hp.elim
end
end Go.Am

/- The abstract machine, sixteenth part: a call, seen from the caller. -/
namespace Go.Am
section
variable {x y' : Ctx} {loc bor : List Nat} {base fresh : Nat} {w w' : World}

/-- y', but that nothing is lent. -/
def Ctx.unlent (y : Ctx) : Ctx := { y with S := fun _ => y.S true }

theorem unlent_keeps (y : Ctx) (r : Nat) : Keeps y y.unlent r := ⟨fun _ _ _ h => h, fun _ _ h => h, fun _ _ _ _ _ h => h, fun _ h => h⟩

theorem unlent_C {y : Ctx} {v : AVal} {cs : List Value} (hk : v.kept = true) (h : v.C y cs) : v.C y.unlent cs :=
  kept_C (x := y) (y := y.unlent) (fun _ hb => ⟨hb, rfl⟩) (unlent_keeps y) v cs hk h

/-- A value of the callee's, as the caller has it. -/
theorem back_C (G : Goes (x.loc loc bor) w y' w') (F : CallFits x y' loc bor base fresh) {v : AVal} {cs : List Value} (hk : bor = [] ∨ v.kept = true) (h : v.C y' cs) :
    (v.refs (backName loc (loc.map fun r => genOf (x.obj r)) base)).C (x.back y' loc bor base fresh) cs := by
  rcases hk with hb | hk
  · exact refs_C (x := y') (y := x.back y' loc bor base fresh) (fun p b hp => ⟨by
      show (if p = true then y'.S true b else if bor = [] then y'.S false b else _)
      cases p with
      | true => exact hp
      | false => rw [if_neg (by simp), if_pos hb]; exact hp, rfl⟩) (back_names F) v cs h
  · refine refs_C (x := y'.unlent) (y := x.back y' loc bor base fresh) (fun p b hp => ⟨?_, rfl⟩) ⟨(back_names F).ptr, (back_names F).slc, (back_names F).sub, (back_names F).map⟩ v cs (unlent_C hk h)
    show (if p = true then y'.S true b else if bor = [] then y'.S false b else _)
    have hp : y'.S true b := hp
    cases p with
    | true => exact hp
    | false =>
      rw [if_neg (by simp)]
      split
      · exact G.mem.sub b hp
      · exact .inr hp

theorem owned_back (F : CallFits x y' loc bor base fresh) {b : Nat} (h : Owned (x.back y' loc bor base fresh) b) : Owned y' b ∨ ∃ r a, r ∉ loc ∧ (x.obj r).live = true ∧ x.μ r = some a ∧ a.block = b := by
  obtain ⟨r, a, l, m, e⟩ := h
  rw [back_obj F] at l
  rw [back_μ] at m
  cases hf : findRef loc r with
  | some i =>
    rw [hf] at l m
    simp only [backObj_live] at l
    exact .inl ⟨i, a, l, m, e⟩
  | none =>
    rw [hf] at l m
    simp only at l m
    by_cases hb : base ≤ r ∧ r < base + fresh
    · rw [if_pos hb] at l m
      rw [backObj_live] at l
      exact .inl ⟨_, a, l, m, e⟩
    · rw [if_neg hb] at l m
      exact .inr ⟨r, a, findRef_none _ _ hf, l, m, e⟩

theorem call_goes (M : Mem x) (hh : x.h = fun b => w.heap[b]?) (G : Goes (x.loc loc bor) w y' w') (F : CallFits x y' loc bor base fresh) : Goes x w (x.back y' loc bor base fresh) w' := by
  have hlow : ∀ b, (x.h b).isSome = true → b < w.heap.size := fun b hb => by rw [hh] at hb; simpa using hb
  -- what the callee owned at first, the caller owned
  have own0 : ∀ b, Owned (x.loc loc bor) b → ∃ r a, r ∈ loc ∧ (x.obj r).live = true ∧ x.μ r = some a ∧ a.block = b := fun b h => by
    obtain ⟨i, r, a, h1, h2, h3, h4⟩ := loc_owned h
    exact ⟨r, a, List.mem_of_getElem? h1, h2, h3, h4⟩
  -- the blocks of the caller's other objects are none of the callee's
  have others : ∀ r a, r ∉ loc → (x.obj r).live = true → x.μ r = some a → ¬ Owned (x.loc loc bor) a.block ∧ ¬ Owned y' a.block ∧ w'.heap[a.block]? = w.heap[a.block]? := by
    intro r a hr hl ha
    have h1 : ¬ Owned (x.loc loc bor) a.block := fun h => by
      obtain ⟨r', a', h1, h2, h3, h4⟩ := own0 _ h
      exact M.apart r' r a' a (fun e => hr (e ▸ h1)) h2 hl h3 ha h4
    have hlt := hlow _ (M.there hl ha)
    refine ⟨h1, fun h => ?_, G.frame _ hlt h1⟩
    rcases G.own _ h with h2 | h2
    · exact h1 h2
    · omega
  have hS : ∀ p b, x.S p b → (x.back y' loc bor base fresh).S p b ∧ (x.back y' loc bor base fresh).h b = x.h b := by
    intro p b hb
    obtain ⟨h1, h2⟩ := G.S p b (.inl hb)
    refine ⟨?_, h2⟩
    show (if p = true then y'.S true b else if bor = [] then y'.S false b else _)
    cases p with
    | true => exact h1
    | false =>
      rw [if_neg (by simp)]
      split
      · exact h1
      · exact .inl hb
  have keeps : ∀ r, Keeps x (x.back y' loc bor base fresh) r := by
    intro r
    cases hf : findRef loc r with
    | some i =>
      have hi := findRef_get _ _ _ hf
      have hob : (x.back y' loc bor base fresh).obj r = backObj (backName loc (loc.map fun r => genOf (x.obj r)) base) (genOf (x.obj r)) (y'.obj i) := by rw [back_obj F, hf]
      have hkind := F.kind i r hi
      have hname : ∀ g, g = genOf (x.obj r) → locName loc (loc.map fun r => genOf (x.obj r)) r g = some (i, 0) := fun g hg => by
        unfold locName; rw [hf]; simp only [gens_at hi, hg, Nat.beq_refl, cond_true]
      have hback : backName loc (loc.map fun r => genOf (x.obj r)) base i 0 = some (r, genOf (x.obj r)) := by
        unfold backName; rw [hi]; simp only [gens_at hi, Nat.add_zero]
      have N1 := loc_names (x := x) (loc := loc) (bor := bor)
      have N2 := back_names F
      refine ⟨fun g p c k => ?_, fun g c k => ?_, fun g lo len ex c k => ?_, fun c k => ?_⟩
      · cases ho : x.obj r with
        | box v =>
          have k0 : PtrRel x r 0 p c := by unfold PtrRel at k ⊢; rw [ho] at k ⊢; exact k
          have k1 := N2.ptr _ _ _ _ _ _ hback ((G.keeps i).ptr _ _ _ (N1.ptr _ _ _ _ _ _ (hname 0 (by rw [ho]; rfl)) k0))
          rw [ho] at hkind
          unfold PtrRel at k1 ⊢
          rw [hob] at k1 ⊢
          cases hy : y'.obj i with
          | box u => rw [hy] at k1; exact k1
          | dead => trivial
          | _ => rw [hy] at hkind; cases hkind
        | arr g' t xs =>
          have hk := k
          unfold PtrRel at hk; rw [ho] at hk
          by_cases hg : g = g'
          · have := N2.ptr _ _ _ _ _ _ hback ((G.keeps i).ptr _ _ _ (N1.ptr _ _ _ _ _ _ (hname g (by rw [ho]; exact hg)) k))
            rw [ho] at this; rw [hg]; exact this
          · rw [ho] at hkind
            unfold PtrRel
            rw [hob]
            cases hy : y'.obj i with
            | arr g2 t2 xs2 => simp only [backObj, ho, genOf]; exact ⟨by omega, fun e => absurd e (by omega)⟩
            | dead => trivial
            | _ => rw [hy] at hkind; cases hkind
        | map K V m bs clk =>
          rw [ho] at hkind
          unfold PtrRel; rw [hob]
          cases hy : y'.obj i with
          | map K2 V2 m2 => trivial
          | dead => trivial
          | _ => rw [hy] at hkind; cases hkind
        | iter v s l =>
          rw [ho] at hkind
          unfold PtrRel; rw [hob]
          cases hy : y'.obj i with
          | dead => trivial
          | _ => rw [hy] at hkind; cases hkind
        | vmap K m =>
          rw [ho] at hkind
          unfold PtrRel; rw [hob]
          cases hy : y'.obj i with
          | vmap K2 m2 => trivial
          | dead => trivial
          | _ => rw [hy] at hkind; cases hkind
        | dead => have := F.live r (List.mem_of_getElem? hi); rw [ho] at this; cases this
        | free => have := F.live r (List.mem_of_getElem? hi); rw [ho] at this; cases this
      · cases ho : x.obj r with
        | arr g' t xs =>
          have hk := k
          unfold SlcRel at hk; rw [ho] at hk
          by_cases hg : g = g'
          · have := N2.slc _ _ _ _ _ hback ((G.keeps i).slc _ _ (N1.slc _ _ _ _ _ (hname g (by rw [ho]; exact hg)) k))
            rw [ho] at this; rw [hg]; exact this
          · rw [ho] at hkind
            unfold SlcRel
            rw [hob]
            cases hy : y'.obj i with
            | arr g2 t2 xs2 => simp only [backObj, ho, genOf]; exact ⟨by omega, fun e => absurd e (by omega)⟩
            | dead => trivial
            | _ => rw [hy] at hkind; cases hkind
        | dead => have := F.live r (List.mem_of_getElem? hi); rw [ho] at this; cases this
        | free => have := F.live r (List.mem_of_getElem? hi); rw [ho] at this; cases this
        | _ =>
          rw [ho] at hkind
          unfold SlcRel; rw [hob]
          cases hy : y'.obj i <;> rw [hy] at hkind <;> first | trivial | cases hkind
      · cases ho : x.obj r with
        | arr g' t xs =>
          have hk := k
          unfold SubRel at hk; rw [ho] at hk
          by_cases hg : g = g'
          · have := N2.sub _ _ _ _ _ _ _ _ hback ((G.keeps i).sub _ _ _ _ _ (N1.sub _ _ _ _ _ _ _ _ (hname g (by rw [ho]; exact hg)) k))
            rw [ho] at this; rw [hg]; exact this
          · rw [ho] at hkind
            unfold SubRel
            rw [hob]
            cases hy : y'.obj i with
            | arr g2 t2 xs2 => simp only [backObj, ho, genOf]; exact ⟨by omega, fun e => absurd e (by omega)⟩
            | dead => trivial
            | _ => rw [hy] at hkind; cases hkind
        | dead => have := F.live r (List.mem_of_getElem? hi); rw [ho] at this; cases this
        | free => have := F.live r (List.mem_of_getElem? hi); rw [ho] at this; cases this
        | _ =>
          rw [ho] at hkind
          unfold SubRel; rw [hob]
          cases hy : y'.obj i <;> rw [hy] at hkind <;> first | trivial | cases hkind
      · cases ho : x.obj r with
        | map K V m bs clk =>
          have := N2.map _ _ _ _ hback ((G.keeps i).map _ (N1.map _ _ _ _ (hname 0 (by rw [ho]; rfl)) k))
          exact this
        | vmap K m =>
          have := N2.map _ _ _ _ hback ((G.keeps i).map _ (N1.map _ _ _ _ (hname 0 (by rw [ho]; rfl)) k))
          exact this
        | dead => have := F.live r (List.mem_of_getElem? hi); rw [ho] at this; cases this
        | free => have := F.live r (List.mem_of_getElem? hi); rw [ho] at this; cases this
        | _ =>
          rw [ho] at hkind
          unfold MapRel; rw [hob]
          cases hy : y'.obj i <;> rw [hy] at hkind <;> first | trivial | cases hkind
    | none =>
      by_cases hb : base ≤ r ∧ r < base + fresh
      · refine .ofFree ?_
        have := F.free (r - base) (by omega)
        rw [show base + (r - base) = r by omega] at this
        exact obj_of_get this
      · have hob : (x.back y' loc bor base fresh).obj r = x.obj r := by rw [back_obj F, hf]; simp only; rw [if_neg hb]
        have hmu : (x.back y' loc bor base fresh).μ r = x.μ r := by rw [back_μ, hf]; simp only; rw [if_neg hb]
        refine .same hob hmu fun a n hl ha hroom => ?_
        have h3 := (others r a (findRef_none _ _ hf) hl ha).2.2
        unfold Am.Roomy at *
        show ∀ c e fr, y'.h a.block = _ → _
        rw [G.h]; simp only; rw [h3]
        rw [hh] at hroom; exact hroom
  have hown : ∀ b, Owned (x.back y' loc bor base fresh) b → Owned x b ∨ w.heap.size ≤ b := by
    intro b h
    rcases owned_back F h with h | ⟨r, a, _, l, m, e⟩
    · rcases G.own b h with h | h
      · obtain ⟨r, a, _, l, m, e⟩ := own0 b h; exact .inl ⟨r, a, l, m, e⟩
      · exact .inr h
    · exact .inl ⟨r, a, l, m, e⟩
  have hnew : ∀ p b, (x.back y' loc bor base fresh).S p b → x.S p b ∨ Owned (x.loc loc bor) b ∨ w.heap.size ≤ b := by
    intro p b hb
    have hb : (if p = true then y'.S true b else if bor = [] then y'.S false b else x.S false b ∨ y'.S true b) := hb
    have ht : y'.S true b → x.S true b ∨ Owned (x.loc loc bor) b ∨ w.heap.size ≤ b := fun h => by
      rcases G.newS true b h with h | h
      · rcases h with h | ⟨h, _⟩
        · exact .inl h
        · cases h
      · exact .inr h
    cases p with
    | true => exact ht hb
    | false =>
      rw [if_neg (by simp)] at hb
      split at hb
      · rename_i hbor
        rcases G.newS false b hb with h | h
        · rcases h with h | ⟨_, r, hr, _⟩
          · exact .inl h
          · rw [hbor] at hr; cases hr
        · exact .inr h
      · rcases hb with hb | hb
        · exact .inl hb
        · rcases ht hb with h | h
          · exact .inl (M.sub b h)
          · exact .inr h
  refine { mem := ⟨fun r => ?_, fun r1 r2 a1 a2 hne l1 l2 m1 m2 => ?_, fun p b hb => ?_, fun b hb => ?_⟩, h := G.h, S := hS, keeps := keeps, os := G.os, tape := G.tape, output := G.output, size := G.size,
           frame := fun b hb ho => G.frame b hb fun h => ho (let ⟨r, a, _, l, m, e⟩ := own0 b h; ⟨r, a, l, m, e⟩), own := hown,
           newS := fun p b hb => (hnew p b hb).imp id fun h => h.imp (fun h => let ⟨r, a, _, l, m, e⟩ := own0 b h; ⟨r, a, l, m, e⟩) id }
  · -- the objects
    have fromY : ∀ i g0, ((x.back y' loc bor base fresh).μ r = y'.μ i) → ObjRel (x.back y' loc bor base fresh) r (backObj (backName loc (loc.map fun r => genOf (x.obj r)) base) g0 (y'.obj i)) := by
      intro i g0 hmu
      have h := G.mem.objs i
      have hT : ∀ b, y'.S true b → (x.back y' loc bor base fresh).S true b ∧ (x.back y' loc bor base fresh).h b = y'.h b := fun b hb => ⟨hb, rfl⟩
      cases ho : y'.obj i with
      | box v =>
        rw [ho] at h
        obtain ⟨b, c, e, h1, h2, h3, h4⟩ := h
        have hk : bor = [] ∨ v.kept = true := F.kept.imp id fun hk => by have := hk i; rw [ho] at this; exact this
        exact ⟨b, c, e, hmu.trans h1, h2, back_C G F hk h3, (refs_flat _ v).trans h4⟩
      | arr g t xs =>
        rw [ho] at h
        rcases h with ⟨h1, h2⟩ | ⟨b, o, c, e, css, h1, h2, h3, h4⟩
        · exact .inl ⟨hmu.trans h1, h2⟩
        · exact .inr ⟨b, o, c, e, css, hmu.trans h1, h2, h3.mono fun _ _ h => h.congr hT, h4⟩
      | map K V m bs clk =>
        rw [ho] at h
        obtain ⟨b, es, h1, h2, h3, h4⟩ := h
        have hV : ∀ {t : Ty} {d : t.den} {u : Value}, (AVal.dat true t d).V y' u → (AVal.dat true t d).V (x.back y' loc bor base fresh) u := fun {t d u} h => V_of_C (x := y') (v := .dat true t d) (v' := .dat true t d) rfl (fun cs hc => Ty.Rel.congr (S := y'.S true) (S' := (x.back y' loc bor base fresh).S true) hT t d cs hc) h
        exact ⟨b, es, hmu.trans h1, h2, h3.mono fun _ _ h => ⟨hV h.1, hV h.2⟩, h4⟩
      | iter v s l =>
        rw [ho] at h
        obtain ⟨b, m, h1, h2, h3, h4⟩ := h
        have hk : bor = [] ∨ v.kept = true := F.kept.imp id fun hk => by have := hk i; rw [ho] at this; exact this
        exact ⟨b, m, hmu.trans h1, h2, back_C G F hk h3, (refs_flat _ v).trans h4⟩
      | vmap K m =>
        rw [ho] at h
        obtain ⟨b, es, clk, h1, h2, h3⟩ := h
        have hV : ∀ {t : Ty} {d : t.den} {u : Value}, (AVal.dat true t d).V y' u → (AVal.dat true t d).V (x.back y' loc bor base fresh) u := fun {t d u} h => V_of_C (x := y') (v := .dat true t d) (v' := .dat true t d) rfl (fun cs hc => Ty.Rel.congr (S := y'.S true) (S' := (x.back y' loc bor base fresh).S true) hT t d cs hc) h
        refine ⟨b, es, clk, hmu.trans h1, h2, (h3.memL fun e c he h => ?_ : All2 (fun e c => VEntryRel (x.back y' loc bor base fresh) K (e.1, e.2.refs (backName loc (loc.map fun r => genOf (x.obj r)) base)) c) m es.toList).mapL fun _ _ h => h⟩
        refine ⟨hV h.1, V_of_C (refs_agg _ _) (fun cs hc => back_C G F ?_ hc) h.2⟩
        exact F.kept.imp id fun hk => by have := hk i; rw [ho] at this; exact List.all_eq_true.1 this e he
      | dead => trivial
      | free => trivial
    rw [back_obj F]
    cases hf : findRef loc r with
    | some i => exact fromY i _ (by rw [back_μ, hf])
    | none =>
      simp only
      by_cases hb : base ≤ r ∧ r < base + fresh
      · rw [if_pos hb]; exact fromY _ _ (by rw [back_μ, hf]; simp only; rw [if_pos hb])
      · rw [if_neg hb]
        refine ObjRel.congr hS keeps (by rw [back_μ, hf]; simp only; rw [if_neg hb]) (fun a hl ha => ?_) (M.objs r)
        have h3 := (others r a (findRef_none _ _ hf) hl ha).2.2
        show y'.h a.block = x.h a.block
        rw [G.h, hh]; exact h3
  · -- they lie apart
    have side : ∀ r a, ((x.back y' loc bor base fresh).obj r).live = true → (x.back y' loc bor base fresh).μ r = some a →
        (∃ i, (y'.obj i).live = true ∧ y'.μ i = some a ∧ ∀ g, ∃ g', backName loc (loc.map fun r => genOf (x.obj r)) base i g = some (r, g')) ∨ (r ∉ loc ∧ (x.obj r).live = true ∧ x.μ r = some a) := by
      intro r a l m
      rw [back_obj F] at l
      rw [back_μ] at m
      cases hf : findRef loc r with
      | some i =>
        rw [hf] at l m
        simp only [backObj_live] at l
        have hi := findRef_get _ _ _ hf
        exact .inl ⟨i, l, m, fun g => by unfold backName; rw [hi]; exact ⟨_, rfl⟩⟩
      | none =>
        rw [hf] at l m
        simp only at l m
        by_cases hb : base ≤ r ∧ r < base + fresh
        · rw [if_pos hb] at l m
          rw [backObj_live] at l
          refine .inl ⟨_, l, m, fun g => ?_⟩
          unfold backName
          rw [List.getElem?_eq_none (by omega)]
          exact ⟨g, by simp only [Option.some.injEq, Prod.mk.injEq, and_true]; omega⟩
        · rw [if_neg hb] at l m
          exact .inr ⟨findRef_none _ _ hf, l, m⟩
    rcases side r1 a1 l1 m1 with ⟨i1, p1, q1, n1⟩ | ⟨k1, p1, q1⟩
    · rcases side r2 a2 l2 m2 with ⟨i2, p2, q2, n2⟩ | ⟨k2, p2, q2⟩
      · refine G.mem.apart i1 i2 a1 a2 (fun e => ?_) p1 p2 q1 q2
        subst e
        obtain ⟨g1, e1⟩ := n1 0
        obtain ⟨g2, e2⟩ := n2 0
        rw [e1] at e2; cases e2; exact hne rfl
      · exact fun e => (others r2 a2 k2 p2 q2).2.1 ⟨i1, a1, p1, q1, e⟩
    · rcases side r2 a2 l2 m2 with ⟨i2, p2, q2, n2⟩ | ⟨k2, p2, q2⟩
      · exact fun e => (others r1 a1 k1 p1 q1).2.1 ⟨i2, a2, p2, q2, e.symm⟩
      · exact M.apart r1 r2 a1 a2 hne p1 p2 q1 q2
  · -- what no one writes is no one's
    have hnotOwn : ¬ Owned (x.back y' loc bor base fresh) b ∧ (y'.h b).isSome = true := by
      have hb2 : (if p = true then y'.S true b else if bor = [] then y'.S false b else x.S false b ∨ y'.S true b) := hb
      have inY : ∀ q, y'.S q b → ¬ Owned y' b ∧ (y'.h b).isSome = true := fun q h => ⟨fun ⟨r, a, l, m, e⟩ => (G.mem.still q b h).2 r a l m e, (G.mem.still q b h).1⟩
      have outer : ¬ ∃ r a, r ∉ loc ∧ (x.obj r).live = true ∧ x.μ r = some a ∧ a.block = b := by
        rintro ⟨r, a, hr, hl, ha, e⟩
        rcases hnew p b hb with h | h | h
        · exact (M.still p b h).2 r a hl ha e
        · exact (others r a hr hl ha).1 (e ▸ h)
        · have := hlow _ (M.there hl ha); omega
      have fin : (∃ q, y'.S q b) ∨ x.S false b → ¬ Owned y' b ∧ (y'.h b).isSome = true := by
        rintro (⟨q, h⟩ | h)
        · exact inY q h
        · exact inY false (G.S false b (.inl h)).1
      have h := fin (by
        cases p with
        | true => exact .inl ⟨true, hb2⟩
        | false =>
          rw [if_neg (by simp)] at hb2
          split at hb2
          · exact .inl ⟨false, hb2⟩
          · rcases hb2 with hb2 | hb2
            · exact .inr hb2
            · exact .inl ⟨true, hb2⟩)
      exact ⟨fun ho => (owned_back F ho).elim h.1 outer, h.2⟩
    exact ⟨hnotOwn.2, fun r a l m e => hnotOwn.1 ⟨r, a, l, m, e⟩⟩
  · have hb : y'.S true b := hb
    show (if false = true then y'.S true b else if bor = [] then y'.S false b else x.S false b ∨ y'.S true b)
    rw [if_neg (by simp)]
    split
    · exact G.mem.sub b hb
    · exact .inr hb
end
end Go.Am

/- The abstract machine, seventeenth part: calls. -/
namespace Go.Am

/-- A function: what it answers, and what it leaves of the objects that it is handed. -/
abbrev Fun := (R : Type) → List AVal → List AObj → (AVal → List AObj → Option R) → Option R
abbrev Fns := FuncId → Option Fun

structure FunOk (P : Program) (f : FuncId) (F : Fun) : Prop where
  body : ∃ fn, P.funcs[f]? = some fn ∧ fn.body.isSome = true ∧ (fn.name == "runtime.NumGoroutine") = false
  run : ∀ (R : Type) (args : List AVal) (objs : List AObj) (k : AVal → List AObj → Option R) (z : R), F R args objs k = some z → ∃ ret objs', k ret objs' = some z ∧ (∀ (R' : Type) (k' : AVal → List AObj → Option R'), F R' args objs k' = k' ret objs') ∧
    ∀ (x : Ctx) (w : World) (vals : Array Value), Mem x → (x.h = fun b => w.heap[b]?) → x.σ = objs → All2 (fun v u => v.V x u) args vals.toList →
      Calls P f vals w fun e w' => ∃ v x', e = .returned v ∧ Goes x w x' w' ∧ x'.σ = objs' ∧ ret.V x' v

def FnsOk (P : Program) (fns : Fns) : Prop := ∀ f F, fns f = some F → FunOk P f F

/-- A value as data of a type, where rows of the call's own are lent; which. -/
def borrowTo (get : Nat → Option AObj) : (t : Ty) → AVal → Option (t.den × List Nat)
  | t, .dat _ t' d => if h : t' = t then some (h ▸ d, []) else none
  | .slice t, .slc r g => match get r with
    | some (.arr g' t' xs) => bif Nat.beq g g' then (if h : t' = t then some (h ▸ xs, [r]) else none) else none
    | _ => none
  | .slice t, .sub r g lo len _ => match get r with
    | some (.arr g' t' xs) => bif Nat.beq g g' then (if h : t' = t then some (h ▸ ((xs.drop lo).take len), [r]) else none) else none
    | _ => none
  | .slice _, .nils => some ([], [])
  | .pair a b, .pair u v => match borrowTo get a u, borrowTo get b v with
    | some (d, l), some (e, m) => some ((d, e), l ++ m)
    | _, _ => none
  | .one a, .one u => match borrowTo get a u with
    | some (d, l) => some (d, l)
    | none => none
  | _, _ => none

def lendK (get : Nat → Option AObj) : List (Option Ty) → List AVal → Option (List AVal × List Nat)
  | some t :: ts, v :: vs => match borrowTo get t v, lendK get ts vs with
    | some (d, b), some (vs', bs) => some (.dat false t d :: vs', b ++ bs)
    | _, _ => none
  | none :: ts, v :: vs => match lendK get ts vs with
    | some (vs', bs) => some (v.weak :: vs', bs)
    | none => none
  | [], [] => some ([], [])
  | [], v :: vs => match lendK get [] vs with
    | some (vs', bs) => some (v.weak :: vs', bs)
    | none => none
  | _ :: _, [] => none

def getAll (get : Nat → Option AObj) : List Nat → Option (List AObj)
  | [] => some []
  | r :: l => match get r, getAll get l with
    | some o, some os => some (o :: os)
    | _, _ => none

structure Ann where
  touch : List Nat := []
  base : Nat := 0
  ro : Bool := true
  loc : List Nat := []
  fresh : Nat := 0
  lend : List (Option Ty) := []
  mode : Nat := 0

def memB (l : List Nat) (r : Nat) : Bool := l.any (Nat.beq r ·)

def nodupB : List Nat → Bool
  | [] => true
  | r :: l => !memB l r && nodupB l

def callFits (get : Nat → Option AObj) (an : Ann) (objs : List AObj) (bor : List Nat) : Bool :=
  nodupB an.loc && objs.all AObj.live && (List.range an.fresh).all (fun j => match get (an.base + j) with | some .free => true | _ => false) &&
    bor.all (fun r => !memB an.loc r && (match get r with | some o => o.live | none => false))

def leftFits (an : Ann) (objs objs' : List AObj) (bor : List Nat) (ret : AVal) : Bool :=
  Nat.beq objs'.length (an.loc.length + an.fresh) && (objs.zip objs').all (fun p => sameKind p.1 p.2) && (bor.isEmpty || (ret.kept && objs'.all AObj.kept))

def actCall {R : Type} (get : Nat → Option AObj) (an : Ann) (F : Fun) (args : List AVal) (k : AVal → Ups → Option R) : Option R :=
  match getAll get an.loc, lendK get an.lend args with
  | some objs, some (args1, bor) => bif callFits get an objs bor then
      F R (args1.map (AVal.refs (locName an.loc (objs.map genOf)))) (objs.map (locObj (locName an.loc (objs.map genOf)))) fun ret objs' =>
        bif leftFits an objs objs' bor ret then
          k (ret.refs (backName an.loc (objs.map genOf) an.base)) ((an.loc ++ List.range' an.base an.fresh).zip ((List.range (an.loc.length + an.fresh)).map fun i =>
            backObj (backName an.loc (objs.map genOf) an.base) ((objs.map genOf).getD i 0) (objs'.getD i .free)))
        else none
    else none
  | _, _ => none

section
variable {P : Program} {T : Tbl} {ρ : Operand → Option AVal} {get : Nat → Option AObj} {a : Act} {w : World} {x : Ctx} {R : Type} {loc bor : List Nat}

theorem memB_iff {l : List Nat} {r : Nat} : memB l r = true ↔ r ∈ l := by
  unfold memB
  rw [List.any_eq_true]
  constructor
  · rintro ⟨q, hq, h⟩; rw [Nat.eq_of_beq_eq_true h]; exact hq
  · intro h; exact ⟨r, h, Nat.beq_refl r⟩

theorem nodupB_iff : ∀ {l : List Nat}, nodupB l = true → l.Nodup := by
  intro l
  induction l with
  | nil => intro _; exact List.nodup_nil
  | cons r l ih =>
    intro h
    unfold nodupB at h
    rw [Bool.and_eq_true] at h
    rw [List.nodup_cons]
    exact ⟨(fun hm => by rw [memB_iff.2 hm] at h; cases h.1), ih h.2⟩

theorem getAll_get : ∀ {l : List Nat} {os : List AObj}, getAll get l = some os → All2 (fun r o => get r = some o) l os := by
  intro l
  induction l with
  | nil => intro os h; cases h; exact .nil
  | cons r l ih =>
    intro os h
    unfold getAll at h
    split at h
    · rename_i o os' h1 h2; cases h; exact .cons h1 (ih h2)
    · cases h

/-- A row of the call's own, as data that are lent. -/
theorem lent_row (M : Mem x) {r g' : Nat} {t : Ty} {xs : List t.den} (hobj : x.obj r = .arr g' t xs) {b o : Nat} (hμ : x.μ r = some ⟨b, o, none⟩) (hbor : r ∈ bor) :
    (x.loc loc bor).S false b ∧ ∃ css, Holds x.h b o css.flatten ∧ All2 (t.Rel (x.loc loc bor).h ((x.loc loc bor).S false)) xs css := by
  have hrel := M.objs r
  rw [hobj] at hrel
  rcases hrel with ⟨h1, _⟩ | ⟨b', o', c, e, css, h1, h2, h3, pre, post, h4, h5⟩
  · rw [h1] at hμ; cases hμ
  · rw [h1] at hμ; cases hμ
    refine ⟨.inr ⟨rfl, r, hbor, _, by rw [hobj]; rfl, h1, rfl⟩, css, ⟨c, e, (0, 0), h2, fun j v hv => ?_⟩, h3.mono fun _ _ h => h.congr fun b hb => ⟨.inl (M.sub b hb), rfl⟩⟩
    have := all2_drop_get h4 j hv
    rw [h5] at this; exact this

theorem borrow_C (M : Mem x) (hobj : ∀ r ob, get r = some ob → x.σ[r]? = some ob) : ∀ (t : Ty) (v : AVal) (d : t.den) (bs : List Nat) (cs : List Value), borrowTo get t v = some (d, bs) → (∀ r ∈ bs, r ∈ bor) → v.C x cs → (AVal.dat false t d).C (x.loc loc bor) cs := by
  have hdat : ∀ (q : Bool) (t t' : Ty) (d' : t'.den) (d : t.den) (cs : List Value) (bs : List Nat), (if h : t' = t then some (h ▸ d', ([] : List Nat)) else none) = some (d, bs) → (AVal.dat q t' d').C x cs → (AVal.dat false t d).C (x.loc loc bor) cs := by
    intro q t t' d' d cs bs h hC
    split at h
    · rename_i ht
      subst ht
      cases h
      exact Ty.Rel.congr (fun b hb => ⟨.inl (by cases q with | true => exact M.sub b hb | false => exact hb), rfl⟩) _ _ _ hC
    · cases h
  intro t
  induction t with
  | slice t ih =>
    intro v d bs cs h hb hC
    cases v with
    | dat q t' d' => exact hdat q _ _ _ _ _ bs (by simpa only [borrowTo] using h) hC
    | slc r g =>
      simp only [borrowTo] at h
      split at h
      · rename_i g' t' xs hg
        obtain ⟨hgg, h⟩ := cond_some h
        split at h
        · rename_i ht
          subst ht
          cases h
          have hob := obj_of_get (hobj r _ hg)
          obtain ⟨c, rfl, _, hr⟩ := hC
          unfold SlcRel at hr
          rw [hob] at hr
          have hr := hr.2 (Nat.eq_of_beq_eq_true hgg)
          have hrel := M.objs r
          rw [hob] at hrel
          rcases hrel with ⟨h1, h3⟩ | ⟨b, o, c', e, css, h1, _⟩
          · simp only [h1] at hr
            obtain ⟨b0, rfl⟩ := hr
            subst h3
            exact ⟨b0, 0, 0, rfl, rfl, Nat.le_refl _, fun _ => rfl, fun h => absurd h (Nat.lt_irrefl _)⟩
          · simp only [h1] at hr
            obtain ⟨cap, rfl, h5, _⟩ := hr
            obtain ⟨h6, css', h7, h8⟩ := lent_row (loc := loc) (bor := bor) M hob h1 (hb r (by simp))
            exact ⟨some ⟨b, o, none⟩, _, cap, rfl, rfl, h5, (fun e => by cases e), fun _ => ⟨b, o, rfl, h6, css', h7, h8⟩⟩
        · cases h
      · cases h
    | sub r g lo len ex =>
      simp only [borrowTo] at h
      split at h
      · rename_i g' t' xs hg
        obtain ⟨hgg, h⟩ := cond_some h
        split at h
        · rename_i ht
          subst ht
          cases h
          have hob := obj_of_get (hobj r _ hg)
          obtain ⟨c, rfl, _, hr⟩ := hC
          unfold SubRel at hr
          rw [hob] at hr
          obtain ⟨hle, base, cap, rfl, h5, _, _, h6, h7⟩ := hr.2 (Nat.eq_of_beq_eq_true hgg)
          have hlen : ((xs.drop lo).take len).length = len := by rw [List.length_take, List.length_drop]; omega
          refine ⟨base, len, cap, rfl, hlen.symm, h5, h6, fun hp => ?_⟩
          cases base with
          | none => have := h6 rfl; omega
          | some b1 =>
            obtain ⟨a0, h8, h10, _⟩ := h7 b1 rfl (by omega)
            have hrel := M.objs r
            rw [hob] at hrel
            rcases hrel with ⟨h1, h3⟩ | ⟨b, o, c', e, css, h1, _⟩
            · rw [h1] at h8; cases h8
            · rw [h1] at h8; cases h8
              rw [add_mk] at h10; subst h10
              obtain ⟨h6, css', ⟨c2, e2, fr2, h11, h12⟩, h8⟩ := lent_row (loc := loc) (bor := bor) M hob h1 (hb r (by simp))
              have hle2 : (css'.take lo).flatten.length = lo * t'.size := by
                rw [flatten_length (n := t'.size) (fun c hc => h8.lengths c (List.mem_of_mem_take hc)), List.length_take, Nat.min_eq_left (by rw [← h8.1]; omega)]
              refine ⟨b, _, rfl, h6, (css'.drop lo).take len, ⟨c2, e2, fr2, h11, fun j v hv => ?_⟩, ⟨by simp [List.length_take, List.length_drop, h8.1], fun i u v hu hv => ?_⟩⟩
              · have := h12 (lo * t'.size + j) v (by
                  have e3 : css'.flatten = (css'.take lo).flatten ++ (((css'.drop lo).take len).flatten ++ ((css'.drop lo).drop len).flatten) := by
                    rw [← List.flatten_append, List.take_append_drop, ← List.flatten_append, List.take_append_drop]
                  rw [e3, List.getElem?_append_right (by omega), hle2, show lo * t'.size + j - lo * t'.size = j by omega, List.getElem?_append_left (List.getElem?_eq_some_iff.1 hv).1]; exact hv)
                rw [← this]; congr 1; omega
              · rw [List.getElem?_take] at hu hv
                split at hu
                · rename_i hi
                  rw [if_pos hi] at hv
                  rw [List.getElem?_drop] at hu hv
                  exact h8.2 _ u v hu hv
                · cases hu
        · cases h
      · cases h
    | nils =>
      simp only [borrowTo, Option.some.injEq, Prod.mk.injEq] at h
      obtain ⟨rfl, _⟩ := h
      obtain ⟨b0, rfl⟩ := hC
      exact ⟨b0, 0, 0, rfl, rfl, Nat.le_refl _, fun _ => rfl, fun h => absurd h (Nat.lt_irrefl _)⟩
    | _ => simp only [borrowTo] at h; cases h
  | pair ta tb iha ihb =>
    intro v d bs cs h hb hC
    cases v with
    | dat q t' d' => exact hdat q _ _ _ _ _ bs (by simpa only [borrowTo] using h) hC
    | pair u v =>
      simp only [borrowTo] at h
      split at h
      · rename_i d1 l e1 m h1 h2
        cases h
        obtain ⟨c1, c2, rfl, k1, k2⟩ := hC
        exact ⟨c1, c2, rfl, iha u d1 l c1 h1 (fun r hr => hb r (by simp [hr])) k1, ihb v e1 m c2 h2 (fun r hr => hb r (by simp [hr])) k2⟩
      · cases h
    | _ => simp only [borrowTo] at h; cases h
  | one t ih =>
    intro v d bs cs h hb hC
    cases v with
    | dat q t' d' => exact hdat q _ _ _ _ _ bs (by simpa only [borrowTo] using h) hC
    | one u =>
      simp only [borrowTo] at h
      split at h
      · rename_i d1 l h1
        cases h
        exact ih u _ _ cs h1 hb hC
      · cases h
    | _ => simp only [borrowTo] at h; cases h
  | _ =>
    intro v d bs cs h hb hC
    cases v with
    | dat q t' d' => exact hdat q _ _ _ _ _ bs (by simpa only [borrowTo] using h) hC
    | _ => simp only [borrowTo] at h; cases h
end
end Go.Am

/- The abstract machine, eighteenth part: that a call does what the machine says. -/
namespace Go.Am

/-- The values of a chain. -/
def AVal.list : AVal → Option (List AVal)
  | .nil => some []
  | .cons a b => match b.list with | some l => some (a :: l) | none => none
  | _ => none

/-- What a function gets: its first arguments, those of the call, what it has caught. -/
def AVal.given (caps : AVal) (args : List AVal) : Option (List AVal) := match caps with
  | .tup w => match w.list with | some l => some (l ++ args) | none => none
  | c => match c.list with | some l => some (args ++ l) | none => none

section
variable {P : Program} {T : Tbl} {ρ : Operand → Option AVal} {get : Nat → Option AObj} {a : Act} {w : World} {x : Ctx} {R : Type} {loc bor : List Nat}

theorem list_V : ∀ {caps : AVal} {l : List AVal} {vs : List Value}, caps.list = some l → caps.C x vs → All2 (fun v u => v.V x u) l vs := by
  intro caps
  induction caps with
  | nil => intro l vs h hc; cases h; have : vs = [] := hc; subst this; exact .nil
  | cons a b iha ihb =>
    intro l vs h hc
    unfold AVal.list at h
    split at h
    · rename_i l' hl
      cases h
      obtain ⟨u, us, rfl, h1, h2⟩ := hc
      exact .cons h1 (ihb hl h2)
    · cases h
  | _ => intro l vs h; cases h

theorem borrow_agg : ∀ (t : Ty) (v : AVal) (d : t.den) (bs : List Nat), borrowTo get t v = some (d, bs) → t.agg = v.agg := by
  intro t v d bs h
  have hdat : ∀ (q : Bool) (t t' : Ty) (d' : t'.den) (d : t.den), (if h : t' = t then some (h ▸ d', ([] : List Nat)) else none) = some (d, bs) → t.agg = (AVal.dat q t' d').agg := by
    intro q t t' d' d h
    split at h
    · rename_i ht; subst ht; rfl
    · cases h
  cases t <;> cases v <;> first
    | (exact hdat _ _ _ _ _ (by simpa only [borrowTo] using h))
    | rfl
    | (simp only [borrowTo] at h; cases h)

theorem borrow_V (M : Mem x) (hobj : ∀ r ob, get r = some ob → x.σ[r]? = some ob) {t : Ty} {v : AVal} {d : t.den} {bs : List Nat} {u : Value} (h : borrowTo get t v = some (d, bs)) (hb : ∀ r ∈ bs, r ∈ bor) (hv : v.V x u) :
    (AVal.dat false t d).V (x.loc loc bor) u :=
  V_of_C (v := v) (v' := .dat false t d) (borrow_agg t v d bs h) (fun cs hc => borrow_C M hobj t v d bs cs h hb hc) hv

theorem lend_V (M : Mem x) (hobj : ∀ r ob, get r = some ob → x.σ[r]? = some ob) {f : Nat → Nat → Option (Nat × Nat)} (N : Names x (x.loc loc bor) f) : ∀ (ts : List (Option Ty)) (vs args : List AVal) (bs : List Nat) (us : List Value), lendK get ts vs = some (args, bs) → (∀ r ∈ bs, r ∈ bor) →
    All2 (fun v u => v.V x u) vs us → All2 (fun v u => v.V (x.loc loc bor) u) (args.map (AVal.refs f)) us := by
  have weakV : ∀ (v : AVal) (u : Value), v.V x u → (v.weak.refs f).V (x.loc loc bor) u := fun v u h =>
    refs_V loc_S N (V_of_C (weak_agg v) (weak_C v) h)
  intro ts
  induction ts with
  | nil =>
    intro vs
    induction vs with
    | nil => intro args bs us h _ hA; simp only [lendK, Option.some.injEq, Prod.mk.injEq] at h; obtain ⟨rfl, rfl⟩ := h; rw [hA.nil_inv]; exact .nil
    | cons v vs ih =>
      intro args bs us h hb hA
      obtain ⟨u, us', rfl, h1, h2⟩ := hA.cons_inv
      unfold lendK at h
      split at h
      · rename_i vs' bs' he; cases h; exact .cons (weakV v u h1) (ih _ _ us' he hb h2)
      · cases h
  | cons t ts ih =>
    intro vs args bs us h hb hA
    cases vs with
    | nil => cases t <;> cases h
    | cons v vs =>
      obtain ⟨u, us', rfl, h1, h2⟩ := hA.cons_inv
      cases t with
      | none =>
        unfold lendK at h
        split at h
        · rename_i vs' bs' he; cases h; exact .cons (weakV v u h1) (ih vs _ _ us' he hb h2)
        · cases h
      | some t =>
        unfold lendK at h
        split at h
        · rename_i d b vs' bs' h3 h4
          cases h
          exact .cons (borrow_V M hobj h3 (fun r hr => hb r (by simp [hr])) h1) (ih vs _ _ us' h4 (fun r hr => hb r (by simp [hr])) h2)
        · cases h

theorem getAll_obj (hobj : ∀ r ob, get r = some ob → x.σ[r]? = some ob) {l : List Nat} {os : List AObj} (h : getAll get l = some os) : os = l.map x.obj := by
  have A := getAll_get h
  apply List.ext_getElem?
  intro i
  rw [List.getElem?_map]
  cases hi : l[i]? with
  | none =>
    have : os[i]? = none := List.getElem?_eq_none (by rw [← A.1]; exact List.getElem?_eq_none_iff.1 hi)
    rw [this]; rfl
  | some r =>
    obtain ⟨o, h1, h2⟩ := A.get hi
    rw [h1, Option.map_some, obj_of_get (hobj r o h2)]

theorem actCall_ok (H : Meets P T ρ get a w x) {o : Oper} {fo : Operand} {argos : Array Operand} {ats : Array TypeId} (ho : o.op = .call { callee := .value fo, args := argos, argTypes := ats }) {f : FuncId} {caps : AVal} {args all : List AVal} {F : Fun} (hF : FunOk P f F)
    (hf : ρ fo = some (.fn f caps)) (hcaps : caps.given args = some all) (hargs : argos.toList.mapM ρ = some args) (an : Ann) {k : AVal → Ups → Option R} {z : R} (hk : actCall get an F all k = some z) :
    ∃ u ups, k u ups = some z ∧ ActOk P o a w x u ups := by
  unfold actCall at hk
  split at hk
  case h_2 => cases hk
  rename_i objs args1 bor hobjs hlend
  obtain ⟨hfit, hk⟩ := cond_some hk
  unfold callFits at hfit
  rw [Bool.and_eq_true, Bool.and_eq_true, Bool.and_eq_true] at hfit
  obtain ⟨⟨⟨hnd, hlive⟩, hfree⟩, hbor⟩ := hfit
  have hnd := nodupB_iff hnd
  have hobjs' := getAll_obj H.obj hobjs
  have hliveL : ∀ r ∈ an.loc, (x.obj r).live = true := fun r hr => by
    rw [hobjs', List.all_map] at hlive
    exact List.all_eq_true.1 hlive r hr
  have hborL : ∀ r ∈ bor, r ∉ an.loc ∧ (x.obj r).live = true := fun r hr => by
    have := List.all_eq_true.1 hbor r hr
    rw [Bool.and_eq_true] at this
    refine ⟨(fun h => by rw [memB_iff.2 h] at this; cases this.1), ?_⟩
    have h2 := this.2
    split at h2
    · rename_i ob hob; rw [obj_of_get (H.obj r ob hob)]; exact h2
    · cases h2
  have hfreeL : ∀ j, j < an.fresh → x.σ[an.base + j]? = some .free := fun j hj => by
    have := List.all_eq_true.1 hfree j (List.mem_range.2 hj)
    split at this
    · rename_i hg; exact H.obj _ _ hg
    · cases this
  have hgens : objs.map genOf = an.loc.map fun r => genOf (x.obj r) := by rw [hobjs', List.map_map]; rfl
  rw [hgens] at hk
  obtain ⟨ret, objs', hk2, _, hcall⟩ := hF.run _ _ _ _ _ hk
  obtain ⟨hleft, hk3⟩ := cond_some hk2
  unfold leftFits at hleft
  rw [Bool.and_eq_true, Bool.and_eq_true] at hleft
  obtain ⟨⟨hlen, hkind⟩, hkept⟩ := hleft
  -- the arguments' values
  obtain ⟨vs0, e0, hcapV⟩ := (show (AVal.fn f caps).C x [a.eval fo] from H.val _ _ hf)
  simp only [List.cons.injEq, and_true] at e0
  have hargV : All2 (fun v u => v.V x u) args (argos.toList.map a.eval) := by
    have : ∀ (os : List Operand) (vs : List AVal), os.mapM ρ = some vs → All2 (fun v u => v.V x u) vs (os.map a.eval) := by
      intro os
      induction os with
      | nil => intro vs h; simp at h; subst h; exact .nil
      | cons o os ih =>
        intro vs h
        rw [List.mapM_cons] at h
        simp only [bind, Option.bind_eq_some_iff, pure, Option.some.injEq] at h
        obtain ⟨v, hv, vs', h1, rfl⟩ := h
        exact .cons (H.val _ _ hv) (ih _ h1)
    exact this _ _ hargs
  obtain ⟨ALL, hall, hrun⟩ : ∃ ALL : List Value, All2 (fun v u => v.V x u) all ALL ∧ (execOp a.eval o).run P w = .ok (.enter f ALL.toArray) w := by
    obtain ⟨fn, hfn, hbody, hname⟩ := hF.body
    have hb : fn.body.isNone = false := by cases hbb : fn.body with | none => rw [hbb] at hbody; cases hbody | some c => rfl
    have run : ∀ us vs : List Value, a.eval fo = .func (.func f) us.toArray vs.toArray → (execOp a.eval o).run P w = .ok (.enter f (us ++ argos.toList.map a.eval ++ vs).toArray) w := by
      intro us vs e0
      simp only [execOp, ho, resolve, Deferred.ofValue, e0, Sem.run_bind, Sem.run_pure, Result.andThen_ok, invoke, callFunc, run_program, hfn, hname, hb, Bool.false_eq_true, if_false]
      simp
    cases htup : caps.isTup with
    | false =>
      rw [htup] at e0
      have hc : ∃ l, caps.list = some l ∧ args ++ l = all := by
        unfold AVal.given at hcaps
        cases caps <;> first
          | (cases htup; done)
          | (simp only at hcaps; split at hcaps
             · rename_i l hl; cases hcaps; exact ⟨l, hl, rfl⟩
             · cases hcaps)
      obtain ⟨l, hl, rfl⟩ := hc
      exact ⟨_, hargV.append (list_V hl hcapV), by simpa using run [] vs0 (by rw [e0]; rfl)⟩
    | true =>
      rw [htup] at e0
      cases caps <;> try (cases htup; done)
      rename_i wv
      obtain ⟨us, rfl, hus⟩ := hcapV
      unfold AVal.given at hcaps
      simp only at hcaps
      split at hcaps
      · rename_i l hl
        cases hcaps
        exact ⟨_, (list_V hl hus).append hargV, by simpa using run us [] (by rw [e0]; rfl)⟩
      · cases hcaps
  have hallL := lend_V (loc := an.loc) (bor := bor) H.mem H.obj (loc_names (x := x) (loc := an.loc) (bor := bor)) an.lend all args1 bor _ hlend (fun r hr => hr) hall
  have hC := hcall (x.loc an.loc bor) w ALL.toArray (loc_mem H.mem hnd fun r hr => (hborL r hr).1) H.h (by
    show an.loc.map _ = _
    rw [hobjs', List.map_map]; rfl) (by simpa using hallL)
  refine ⟨_, _, hk3, fun next Q hnext => ?_⟩
  unfold Oper.wp
  rw [hrun, Oper.upon_enter]
  refine hC.mono fun e w' h => ?_
  obtain ⟨v, y', rfl, G, hσ, hret⟩ := h
  have hyo : ∀ i, y'.obj i = objs'.getD i .free := fun i => by unfold Ctx.obj; rw [hσ]
  have hlen' := Nat.eq_of_beq_eq_true hlen
  have F' : CallFits x y' an.loc bor an.base an.fresh := {
    nodup := hnd
    live := hliveL
    free := hfreeL
    lent := hborL
    len := by rw [hσ]; exact hlen'
    kind := fun i r hi => by
      have h1 : objs[i]? = some (x.obj r) := by rw [hobjs', List.getElem?_map, hi]; rfl
      have hil : i < objs'.length := by have := (List.getElem?_eq_some_iff.1 hi).1; omega
      have h2 : objs'[i]? = some (y'.obj i) := by rw [hyo, List.getD_eq_getElem?_getD, List.getElem?_eq_getElem hil]; rfl
      have h3 : (objs.zip objs')[i]? = some (x.obj r, y'.obj i) := by rw [List.getElem?_zip_eq_some]; exact ⟨h1, h2⟩
      exact List.all_eq_true.1 hkind _ (List.mem_of_getElem? h3)
    kept := by
      rcases Bool.or_eq_true_iff.1 hkept with h | h
      · exact .inl (List.isEmpty_iff.1 h)
      · rw [Bool.and_eq_true] at h
        refine .inr fun i => ?_
        rw [hyo, List.getD_eq_getElem?_getD]
        cases hi : objs'[i]? with
        | none => rfl
        | some ob => exact List.all_eq_true.1 h.2 ob (List.mem_of_getElem? hi) }
  have hretk : bor = [] ∨ ret.kept = true := by
    rcases Bool.or_eq_true_iff.1 hkept with h | h
    · exact .inl (List.isEmpty_iff.1 h)
    · rw [Bool.and_eq_true] at h; exact .inr h.1
  refine hnext v w' (x.back y' an.loc bor an.base an.fresh) (call_goes H.mem H.h G F') ?_ (V_of_C (refs_agg _ ret) (fun cs hc => back_C G F' hretk hc) hret)
  show applyUps x.σ _ = applyUps x.σ _
  congr 2
  apply List.map_congr_left
  intro i _
  rw [hyo]
end
end Go.Am
